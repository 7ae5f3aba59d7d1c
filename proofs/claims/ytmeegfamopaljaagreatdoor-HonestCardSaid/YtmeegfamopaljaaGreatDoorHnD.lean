/- The walk of flow.Order: the nodes, each behind those for which it waits. -/
import Derived.Test.YtmeegfamopaljaaGreatDoorHnC
import Derived.ScopeJumps
import Derived.WalkMore
import Derived.Laws.MakeOwn
import Derived.Laws.BitsAllLaws
import Derived.LoopTactic
import Derived.Deep.OwnRows
import Derived.Deep.LoopGhost
import Derived.Maps.AppendAt
import Derived.OwnWalk
import Derived.Deep.RegionWith
import Derived.Deep.DeepCutAuto
import Derived.StillTailTactics
import Derived.Laws.Externs
import Derived.Stop.Asserts
import Derived.Recover
import Derived.Test.YtmeegfamopaljaaGreatDoorHnA
import Derived.Laws.BitsLemmas
import Derived.WalkKit
namespace Go.Proofs.YtmeegfamopaljaaGreatDoor
open Go Go.RowKit Go.Deep
def Blk (w : World) (g : Nat) (t : TypeId) (cs : Array Value) : Prop := w.heap[g]? = some (.cells cs t (0, 0))
section
variable {w w' : World} {g : Nat} {t : TypeId} {cs : Array Value}
theorem Blk.lt (h : Blk w g t cs) : g < w.heap.size := by
 rcases Nat.lt_or_ge g w.heap.size with hlt | hge
 · exact hlt
 · unfold Blk at h; rw [Array.getElem?_eq_none hge] at h; cases h
theorem Blk.cell (h : Blk w g t cs) (i : Nat) : w.cell? ⟨g, i, none⟩ = cs[i]? := cell_of_row w g i cs t (0, 0) h
theorem Blk.free (h : Blk w g t cs) (i : Nat) : w.frozen? ⟨g, i, none⟩ = false := by
 unfold Blk at h
 simp [World.frozen?, h]
theorem Blk.made (w : World) (t : TypeId) (cs : Array Value) : Blk (w.alloc (.cells cs t)) w.heap.size t cs := heap_alloc_new w _
theorem Blk.put (h : Blk w g t cs) (i : Nat) (u : Value) : Blk (w.setCell ⟨g, i, none⟩ u) g t (cs.setIfInBounds i u) := by
 unfold Blk at h ⊢
 simp [World.setCell, Array.getElem?_modify, h]
theorem Blk.same {B : Nat} (h : Blk w g t cs) (s : Same B w w') (hg : g < B) : Blk w' g t cs := (s g hg).trans h
end
section
variable {l : List FK.Node} {i j m n : Nat} {F F' : Nat → Nat}
def cA (l : List FK.Node) (i m : Nat) (j : Nat) : Nat := if j < i then FK.em (FK.dg l j) else if j = i then FK.em ((FK.dg l i).take m) else 0
def cJ (n : Nat) (F : Nat → Nat) : Array Value := ((List.range n).map fun j => Value.int .u64 (F j)).toArray
theorem eS (h : j < n) : (cJ n F)[j]? = some (.int .u64 (F j)) := by simp [cJ, h]
theorem oV (hF : ∀ k, k ≠ j → F' k = F k) : (cJ n F).setIfInBounds j (.int .u64 (F' j)) = cJ n F' := by
 apply Array.ext_getElem?
 intro k
 unfold cJ
 rw [Array.getElem?_setIfInBounds]
 by_cases hk : j = k
 · subst hk
   by_cases hj : j < n <;> simp [hj]
 · rw [if_neg hk]
   by_cases hj : k < n
   · simp [hj, hF k (fun e => hk e.symm)]
   · simp [hj]
theorem mE {w : World} {g : Nat} (h : Blk w g 87 (cJ n F)) (hF : ∀ k, k ≠ j → F' k = F k) : Blk (w.setCell ⟨g, j, none⟩ (.int .u64 (F' j))) g 87 (cJ n F') := by
 have := h.put j (.int .u64 (F' j))
 rwa [oV hF] at this
theorem mC (l : List FK.Node) (n : Nat) : madeCells #[Value.int .u64 0] n = cJ n (cA l 0 0) := by
 have : cA l 0 0 = fun _ => 0 := by funext j; simp [cA, FK.em]
 rw [this]
 unfold madeCells cJ
 apply Array.ext_getElem?
 intro k
 by_cases hk : k < n <;> simp [hk, Nat.mod_one]
theorem ox {x : Nat} (h : (FK.dg l i)[m]? = some x) : cA l i (m + 1) i = cA l i m i ||| (1 <<< x) := by
 obtain ⟨hm, hx⟩ := List.getElem?_eq_some_iff.1 h
 simp only [cA, Nat.lt_irrefl, if_false, if_true]
 rw [List.take_succ_eq_append_getElem hm, FK.sK, hx]; simp [FK.em]
theorem mD {m' k : Nat} (h : k ≠ i) : cA l i m k = cA l i m' k := by simp [cA, h]
theorem oy (h : (FK.dg l i).length ≤ m) : cA l i m = cA l (i + 1) 0 := by
 funext j
 unfold cA
 rw [List.take_of_length_le h]
 by_cases h1 : j < i
 · rw [if_pos h1, if_pos (by omega)]
 · by_cases h2 : j = i
   · subst h2; simp
   · rw [if_neg h1, if_neg h2, if_neg (by omega)]; split <;> simp [FK.em]
theorem vF : ∀ {l : List Nat}, (∀ k ∈ l, k < n) → FK.em l < 2 ^ n := by
 intro l
 induction l with
 | nil => intro _; exact Nat.two_pow_pos _
 | cons k l ih =>
  intro h
  simp only [FK.em]
  refine Nat.or_lt_two_pow ?_ (ih fun x hx => h x (by simp [hx]))
  rw [Nat.one_shiftLeft]
  exact Nat.pow_lt_pow_right (by omega) (h k (by simp))
theorem iQ (h : ∀ i, ∀ k ∈ FK.dg l i, k < n) : cA l i m j < 2 ^ n := by
 unfold cA
 split
 · exact vF (h j)
 · split
   · exact vF fun k hk => h i k (List.mem_of_mem_take hk)
   · exact Nat.two_pow_pos _
theorem fd (a b : Nat) (ha : a < 4096) (hb : b < 4096) : bits BinOp.and IntKind.u64 (a : Int) (b : Int) = ((a &&& b : Nat) : Int) := bits_and_u64_nat a b (by omega) (by omega)
theorem kw {wv : Nat} (h : wv ≠ 0) : wv &&& (wv - 1) < wv := by
 have : wv &&& (wv - 1) ≤ wv - 1 := Nat.and_le_right
 omega
def vZ (I : World → List Nat → Prop) (l : List FK.Node) (e : Ending) (w' : World) : Prop :=
 ∃ (left : Nat) (T : List Nat), e = .returned (.int .u64 left) ∧ I w' T ∧ FK.Ordering l left T ∧ (∀ i, left.testBit i = true → ∃ k ∈ FK.dg l i, left.testBit k = true)
def clr (left t : Nat) : Nat := left &&& (18446744073709551615 - 2 ^ t)
theorem gu {left t : Nat} (ht : t < 64) (hleft : left < 18446744073709551616) (j : Nat) : (clr left t).testBit j = (left.testBit j && decide (j ≠ t)) := by
 unfold clr
 rw [Nat.testBit_and]
 by_cases hj : j < 64
 · have e : 18446744073709551615 - 2 ^ t = 2 ^ 64 - (2 ^ t + 1) := by omega
   have hp : 2 ^ t < 2 ^ 64 := Nat.pow_lt_pow_right (by omega) ht
   rw [e, Nat.testBit_two_pow_sub_succ hp, Nat.testBit_two_pow]
   simp [hj, eq_comm]
 · have hp : 2 ^ 64 ≤ 2 ^ j := Nat.pow_le_pow_right (by omega) (by omega)
   have : left.testBit j = false := Nat.testBit_lt_two_pow (by omega)
   rw [this]; simp
theorem clr_lt {left t : Nat} (ht : t < 64) (hleft : left < 18446744073709551616) (hb : left.testBit t = true) : clr left t < left := by
 have h1 : clr left t ≤ left := Nat.and_le_left
 have h2 : clr left t ≠ left := by
  intro e
  have := gu ht hleft t
  rw [e, hb] at this
  simp at this
 omega
theorem jc {t : Nat} (ht : t < 64) : IntKind.u64.wrap (2 ^ t) = 2 ^ t := by
 rw [IntKind.wrap_u64]
 have hp : 2 ^ t < 2 ^ 64 := Nat.pow_lt_pow_right (by omega) ht
 have e : ((2 : Int) ^ t) = ((2 ^ t : Nat) : Int) := by simp
 rw [e]
 generalize 2 ^ t = x at hp
 omega
theorem oz (h : n ≤ 12) : IntKind.u64.wrap (IntKind.u64.wrap (2 ^ n) - 1) = ((2 ^ n - 1 : Nat) : Int) := by
 rw [jc (by omega), IntKind.wrap_u64]
 have hp : 2 ^ n ≤ 2 ^ 12 := Nat.pow_le_pow_right (by omega) h
 have h0 := Nat.two_pow_pos n
 have e : ((2 : Int) ^ n) = ((2 ^ n : Nat) : Int) := by simp
 rw [e]
 generalize 2 ^ n = x at hp h0
 omega
theorem gq {left : Nat} {T : List Nat} (h : FK.Ordering l left T) (hl : l.length ≤ 12) : left < 4096 := by
 have : left < 2 ^ 12 := by
  apply Nat.lt_of_not_le
  intro hge
  have hne : left ≠ 0 := by intro e; rw [e] at hge; exact absurd hge (by decide)
  have h1 := Nat.testBit_log2 hne
  have h2 := ((h.bits _).1 h1).1
  have h3 : 12 ≤ left.log2 := (Nat.le_log2 hne).2 hge
  omega
 simpa using this
def Asked (l : List FK.Node) (left wv : Nat) : Prop := (∀ i, wv.testBit i = true → left.testBit i = true) ∧ ∀ i, left.testBit i = true → wv.testBit i = true ∨ ∃ k ∈ FK.dg l i, left.testBit k = true
theorem Asked.start (l : List FK.Node) (left : Nat) : Asked l left left := ⟨fun _ h => h, fun _ h => .inl h⟩
theorem Asked.next {left wv : Nat} (h : Asked l left wv) {t : Nat} (h1 : wv.testBit t = true) (h2 : ∀ j, j < t → wv.testBit j = false) (hb : ∃ k ∈ FK.dg l t, left.testBit k = true) : Asked l left (wv &&& (wv - 1)) := by
 have e := FK.mj t wv h1 h2
 refine ⟨fun i hi => ?_, fun i hi => ?_⟩
 · rw [e i] at hi; simp at hi; exact h.1 i hi.1
 · rcases h.2 i hi with hw | hw
   · by_cases hit : i = t
     · subst hit; exact .inr hb
     · exact .inl (by rw [e i]; simp [hw, hit])
   · exact .inr hw
def BN (w : World) (A : Option Addr) (c : Nat) (l : List FK.Node) (F : FuncId) (cap : Array Value) (I : World → List Nat → Prop) (a : Act) (w' : World) : Prop :=
 ∃ (left : Nat) (T : List Nat) (u2 u3 u6 u7 u8 u9 u10 u11 u12 u13 u14 u15 u16 u17 u18 u19 u20 u21 u22 u23 u24 u25 u26 u27 u28 u29 u30 u31 u32 u33 u34 u35 u36 u37 u38 u39 u40 u41 u42 u43 u44 u45 u46 u47 u48 u49 u50 u51 u52 u53 u54 u55 u56 u57 u58 u59 u60 u61 u62 u63 u64 u65 u66 : Value), a = { tmps := #[.slice A l.length c, .func (.func F) #[] cap, u2, u3, .int .u64 left, .slice (some ⟨w.heap.size, 0, none⟩) l.length l.length, u6, u7, u8, u9, u10, u11, u12, u13, u14, u15, u16, u17, u18, u19, u20, u21, u22, u23, u24, u25, u26, u27, u28, u29, u30, u31, u32, u33, u34, u35, u36, u37, u38, u39, u40, u41, u42, u43, u44, u45, u46, u47, u48, u49, u50, u51, u52, u53, u54, u55, u56, u57, u58, u59, u60, u61, u62, u63, u64, u65, u66], defers := [] } ∧
  I w' T ∧ FK.Ordering l left T ∧ Blk w' w.heap.size 87 (cJ l.length (cA l l.length 0))
set_option maxRecDepth 100000 in
set_option maxHeartbeats 4000000 in
theorem mh (w : World) (B : Nat) (A : Option Addr) (c : Nat) (l : List FK.Node) (F : FuncId) (cap : Array Value) (I : World → List Nat → Prop) (hB : B ≤ w.heap.size) (hl : l.length ≤ 12)
 (hv : ∀ i, ∀ k ∈ FK.dg l i, k < l.length) (hpos : ∀ n ∈ l, ∀ x ∈ n.after, 0 ≤ x)
 (hF : ∀ (args : Array Value) (W : World), (callFunc F args).run Tryz.prog W = .ok (.enter F args) W) (h0 : I w []) (hI : ∀ W T, I W T → NodesAt W B A c l ∧ Tab W ∧ w.heap.size ≤ W.heap.size)
 (hstab : ∀ W W' T, I W T → Below w.heap.size W W' → I W' T)
 (htell : ∀ W T k, I W T → k < l.length → k ∉ T → (∀ j ∈ FK.dg l k, j ∈ T) → Calls Tryz.prog F (#[.int .i64 k] ++ cap) W fun e W' =>
  e = .returned (.tuple #[]) ∧ I W' (T ++ [k]) ∧ W.heap.size ≤ W'.heap.size ∧ ∀ b, w.heap.size ≤ b → b < W.heap.size → W'.heap[b]? = W.heap[b]?) :
 Calls Tryz.prog 139 #[.slice A l.length c, .func (.func F) #[] cap] w (vZ I l) := by
 have HN := Lib.hid (hI w [] h0).1
 have H0 := Lib.hid h0
 have HI := Lib.hid hI
 have HS := Lib.hid hstab
 have HT := Lib.hid htell
 have HV := Lib.hid hv
 have HP := Lib.hid hpos
 clear h0 hI hstab htell hv hpos
 have hmk : ∀ W : World, (Instr.makeSlice 310 (.int .i64 (l.length : Int)) (.int .i64 (l.length : Int))).run Tryz.prog W = .ok (.slice (some ⟨W.heap.size, 0, none⟩) l.length l.length) (W.alloc (.cells (cJ l.length (cA l 0 0)) 87)) := fun W => by
  rw [← mC]
  exact run_make_row' (P := Tryz.prog) 310 87 (.int .u64 0) 8 Tryz.underlying310 (by kernel_rfl) rfl .i64 .i64 l.length (by omega) (by omega) W
 obtain ⟨left, hleft0⟩ : ∃ x, x = 2 ^ l.length - 1 := ⟨_, rfl⟩
 have hleft : IntKind.u64.wrap (IntKind.u64.wrap (2 ^ l.length) - 1) = (left : Int) := by rw [oz hl, hleft0]
 have HO0 : Hid (FK.Ordering l left []) := by rw [hleft0]; exact .start l
 clear hleft0
 obtain ⟨T, HT0⟩ : ∃ T : List Nat, Hid (T = []) := ⟨_, rfl⟩
 rw [← HT0.out] at HO0 H0
 go_enter Tryz.func139, Tryz.ntmps139
 go_wp2
 refine wp_scope_jumps 0 (BN w A c l F cap I) (fun a _ => (intOf (a.tmps.getD 4 undef)).toNat) rfl ?_ ?_
 · go_wp2
   go_loopw [21] (fun i wr => ∃ k : Nat, k ≤ l.length ∧ i = .int .i64 k ∧ Blk wr w.heap.size 87 (cJ l.length (cA l k 0)) ∧ Below w.heap.size w wr) (fun i _ => l.length - (intOf i).toNat)
   case atStart => exact ⟨0, by omega, rfl, Blk.made _ _ _, (Below.refl _ _).alloc (Nat.le_refl _) _⟩
   case round =>
    obtain ⟨k, hk, rfl, hblk, hsame⟩ := hrel
    have hlt' := hblk.lt
    by_cases hlt : k < l.length
    · obtain ⟨h1, h2, h3⟩ := HN.out
      obtain ⟨b, off, rfl, hbB, hcell⟩ := h3 (by omega)
      have hnode := (hcell k l[k] (by simp [hlt])).keep (hsame.to_same.mono hB) hbB
      obtain ⟨c0, c1, c2, c3, c4, c5, ⟨A6, n6, c6, hi⟩, hr⟩ := hnode
      have HI6 := Lib.hid hi
      have HBLK := Lib.hid hblk
      have HSAME := Lib.hid hsame
      clear hcell h3 hr hi hblk hsame
      go_wp2
      obtain ⟨wo, rfl⟩ : ∃ wo : World, wo = wr := ⟨_, rfl⟩
      go_loopw [29] (fun i ws => ∃ m : Nat, m ≤ l[k].after.length ∧ i = .int .i64 m ∧ Blk ws w.heap.size 87 (cJ l.length (cA l k m)) ∧ Below w.heap.size w ws) (fun i _ => l[k].after.length - (intOf i).toNat)
      case atStart => exact ⟨0, by omega, rfl, HBLK.out.same (B := wo.heap.size) (fun x hx => Below.heap_alloc _ _ _ hx) hlt', HSAME.out.alloc (by omega) _⟩
      case round =>
       obtain ⟨m, hm, rfl, hblk, hsame⟩ := hrel
       have haft : FK.dg l k = l[k].after.map Int.toNat := FK.ql (by simp [hlt])
       by_cases hmlt : m < l[k].after.length
       · have hback : Same B wo wr := fun x hx => (hsame.block x (by omega)).trans (HSAME.out.block x (by omega)).symm
         obtain ⟨b6, o6, hA6, hb6, hc6⟩ := (HI6.out.keep hback).cells (by omega)
         have hxm := hc6 m l[k].after[m] (by simp [hmlt])
         have hx0 : 0 ≤ l[k].after[m] := HP.out l[k] (List.getElem_mem _) _ (List.getElem_mem _)
         have hx1 := HV.out k l[k].after[m].toNat (by rw [haft]; exact List.mem_map_of_mem (List.getElem_mem _))
         obtain ⟨xn, hxn⟩ : ∃ xn : Nat, l[k].after[m] = (xn : Int) := ⟨l[k].after[m].toNat, by omega⟩
         have hget : (FK.dg l k)[m]? = some xn := by rw [haft, List.getElem?_map, List.getElem?_eq_getElem hmlt, hxn]; simp
         rw [hxn] at hxm hx0 hx1
         simp only [Int.toNat_natCast] at hx1
         have hlt1 : cA l k m k < 18446744073709551616 := Nat.lt_of_lt_of_le (iQ (n := 12) fun i x hx => by have := HV.out i x hx; omega) (by decide)
         have hlt2 : 2 ^ xn < 18446744073709551616 := Nat.lt_of_lt_of_le (Nat.pow_lt_pow_right (n := 12) (by omega) (by omega)) (by decide)
         have hcell : wr.cell? ⟨w.heap.size, k, none⟩ = some (.int .u64 (cA l k m k : Nat)) := by rw [hblk.cell]; exact eS hlt
         have hfree : wr.frozen? ⟨w.heap.size, k, none⟩ = false := hblk.free k
         have hsh : IntKind.u64.wrap (2 ^ xn) = 2 ^ xn := jc (by omega)
         have hor : bits BinOp.or IntKind.u64 ((cA l k m k : Nat) : Int) (2 ^ xn) = ((cA l k (m + 1) k : Nat) : Int) := by
          have := bits_or_u64_nat (cA l k m k) (2 ^ xn) hlt1 hlt2
          rw [ox hget, Nat.one_shiftLeft, ← this]; simp
         have HB := Lib.hid hblk
         have HS2 := Lib.hid hsame
         have hsz := hblk.lt
         have hal := HI6.out.len
         have hac := HI6.out.cap
         subst hA6
         clear haft hback hc6 hxn hget hlt1 hlt2 hblk hsame
         go_wp2
         go_region
         go_wp2
         go_roundw
         case rel => exact ⟨m + 1, by omega, by go_num, mE HB.out fun x hx => mD hx, (by repeat (first | exact HS2.out | refine below_drewN ?_ _ | refine Below.drew ?_ | refine Below.alloc ?_ (by first | omega | (simp; done) | (simp; omega)) _ | refine Below.setCell ?_ (by first | omega | (simp; done) | (simp; omega)) _))⟩
         case measure => simp [intOf]; omega
       · have HB := Lib.hid hblk
         have HS2 := Lib.hid hsame
         have hsz := hblk.lt
         have HN2 := Lib.hid (oy (l := l) (i := k) (m := m) (by rw [haft]; simp; omega))
         clear haft hblk hsame
         go_wp2
         go_roundw
         case rel => exact ⟨k + 1, by omega, by go_num, by rw [← HN2.out]; exact HB.out, HS2.out⟩
         case measure => simp [intOf]; omega
    · obtain rfl : k = l.length := by omega
      have hi := HS.out w wr T H0.out hsame
      have ho := HO0.out
      go_wp2
      go_step3
      go_wp2
      have hl4 := gq ho hl
      have HI1 := Lib.hid hi
      have HO := Lib.hid ho
      have HB := Lib.hid hblk
      have hsz := hblk.lt
      clear hi ho hblk
      go_loop [4, 10] (fun s t => ∃ wv : Nat, s = .int .u64 left ∧ t = .int .u64 wv ∧ Asked l left wv ∧ wv < 4096) (fun _ t => (intOf t).toNat)
      case atStart => exact ⟨left, rfl, rfl, .start _ _, hl4⟩
      case round =>
       obtain ⟨wv, rfl, rfl, hask, hw4⟩ := hrel
       have HASK := Lib.hid hask
       clear hask
       by_cases hz : wv = 0
       · have hne : ((wv : Int) != 0) = false := by simp [hz]
         have HZ := Lib.hid hz
         clear hz
         go_wp2
         simp only [Exit.jump]
         go_ret
         exact ⟨left, T, rfl, HI1.out, HO.out, fun i hi => (HASK.out.2 i hi).resolve_left (by rw [HZ.out]; simp)⟩
       · obtain ⟨t1, t2, t3⟩ := j8 wv (by omega) hz
         have HTZ := Lib.hid (jL wv (by omega) hz wr (HI.out _ _ HI1.out).2.1)
         have hne : ((wv : Int) != 0) = true := by simp; omega
         generalize Lib.ctz 64 wv = t at HTZ t1 t2 t3
         have htl : left.testBit t = true := HASK.out.1 t t1
         have htn : t < l.length := ((HO.out.bits t).1 htl).1
         have hnf : cA l l.length 0 t = FK.em (FK.dg l t) := by simp [cA, htn]
         obtain ⟨nf, hnfe⟩ : ∃ nf, nf = cA l l.length 0 t := ⟨_, rfl⟩
         have hnf4 : nf < 4096 := by rw [hnfe]; exact iQ (n := 12) fun i x hx => by have := HV.out i x hx; omega
         have hcell : wr.cell? ⟨w.heap.size, t, none⟩ = some (.int .u64 (nf : Nat)) := by rw [HB.out.cell, hnfe]; exact eS htn
         have hzero := FK.f9 (FK.dg l t) left
         rw [← hnf, ← hnfe] at hzero
         have HZERO := Lib.hid hzero
         have T1 := Lib.hid t1
         have T2 := Lib.hid t2
         have TL := Lib.hid htl
         have HZ := Lib.hid hz
         by_cases hb : nf &&& left = 0
         · have hand : bits BinOp.and IntKind.u64 (nf : Int) (left : Int) = 0 := by rw [fd _ _ hnf4 hl4, hb]; rfl
           have hsh : IntKind.u64.wrap (2 ^ t) = 2 ^ t := jc t3
           have handn : bits BinOp.andNot IntKind.u64 (left : Int) (2 ^ t) = ((clr left t : Nat) : Int) := by
            have hp : 2 ^ t < 2 ^ 64 := Nat.pow_lt_pow_right (by omega) t3
            have := u64_andNot_nat left (2 ^ t) (by omega) (by simpa using hp)
            simpa [clr] using this
           have hfree : ∀ k ∈ FK.dg l t, left.testBit k = false := hzero.1 hb
           have htold : ∀ j ∈ FK.dg l t, j ∈ T := fun j hj => Classical.byContradiction fun hn => by
            have h1 := (HO.out.bits j).2 ⟨HV.out t j hj, hn⟩
            rw [hfree j hj] at h1; cases h1
           have HTELL := Lib.hid (HT.out wr T t HI1.out htn ((HO.out.bits t).1 htl).2 htold)
           have HFREE := Lib.hid hfree
           clear hnf hnfe hzero t1 t2 htl hz hb hfree htold
           go_wp2_with (go_at_call 141; refine HTZ.out.mono ?_; rintro e w2 ⟨rfl, rfl⟩)
           refine HTELL.out.mono ?_
           rintro e w3 ⟨rfl, hi3, hsz3, hsame3⟩
           have HI3 := Lib.hid hi3
           have HSAME3 := Lib.hid hsame3
           clear hi3 hsame3
           go_wp2
           go_step3
           exact ⟨rfl, ⟨clr left t, T ++ [t], _, _, _, _, _, _, _, _, _, _, _, _, _, _, _, _, _, _, _, _, _, _, _, _, _, _, _, _, _, _, _, _, _, _, _, _, _, _, _, _, _, _, _, _, _, _, _, _, _, _, _, _, _, _, _, _, _, _, _, _, _, _, _, rfl, HI3.out, HO.out.tell TL.out HFREE.out (gu t3 (by omega)), (HSAME3.out _ (Nat.le_refl _) hsz).trans HB.out⟩⟩
         · have hand : bits BinOp.and IntKind.u64 (nf : Int) (left : Int) = ((nf &&& left : Nat) : Int) := fd _ _ hnf4 hl4
           have hne2 : (((nf &&& left : Nat) : Int) == 0) = false := by simp; omega
           have hw : bits BinOp.and IntKind.u64 (wv : Int) ((wv : Int) - 1) = ((wv &&& (wv - 1) : Nat) : Int) := by
            have := fd wv (wv - 1) hw4 (by omega)
            rwa [show ((wv - 1 : Nat) : Int) = (wv : Int) - 1 by omega] at this
           have hdec := kw hz
           have hex : ∃ k ∈ FK.dg l t, left.testBit k = true := Classical.byContradiction fun hn => hb (hzero.2 fun k hk => by
            cases hx : left.testBit k with
            | false => rfl
            | true => exact absurd ⟨k, hk, hx⟩ hn)
           have HEX := Lib.hid hex
           have hz1 : 1 ≤ wv := by omega
           clear hnf hnfe hzero t1 t2 htl hz hb hex
           go_wp2_with (go_at_call 141; refine HTZ.out.mono ?_; rintro e w2 ⟨rfl, rfl⟩)
           go_round
           case rel => exact ⟨wv &&& (wv - 1), rfl, rfl, HASK.out.next T1.out T2.out HEX.out, by omega⟩
           case measure => simp [intOf]; omega
 · rintro a' w' ⟨left, T, u2, u3, u6, u7, u8, u9, u10, u11, u12, u13, u14, u15, u16, u17, u18, u19, u20, u21, u22, u23, u24, u25, u26, u27, u28, u29, u30, u31, u32, u33, u34, u35, u36, u37, u38, u39, u40, u41, u42, u43, u44, u45, u46, u47, u48, u49, u50, u51, u52, u53, u54, u55, u56, u57, u58, u59, u60, u61, u62, u63, u64, u65, u66, rfl, hi, ho, hblk⟩
   go_wp2
   have hl4 := gq ho hl
   have HI1 := Lib.hid hi
   have HO := Lib.hid ho
   have HB := Lib.hid hblk
   have hsz := hblk.lt
   clear hi ho hblk
   go_loop [4, 10] (fun s t => ∃ wv : Nat, s = .int .u64 left ∧ t = .int .u64 wv ∧ Asked l left wv ∧ wv < 4096) (fun _ t => (intOf t).toNat)
   case atStart => exact ⟨left, rfl, rfl, .start _ _, hl4⟩
   case round =>
    obtain ⟨wv, rfl, rfl, hask, hw4⟩ := hrel
    have HASK := Lib.hid hask
    clear hask
    by_cases hz : wv = 0
    · have hne : ((wv : Int) != 0) = false := by simp [hz]
      have HZ := Lib.hid hz
      clear hz
      go_wp2
      simp only [Exit.jump]
      go_ret
      exact ⟨left, T, rfl, HI1.out, HO.out, fun i hi => (HASK.out.2 i hi).resolve_left (by rw [HZ.out]; simp)⟩
    · obtain ⟨t1, t2, t3⟩ := j8 wv (by omega) hz
      have HTZ := Lib.hid (jL wv (by omega) hz w' (HI.out _ _ HI1.out).2.1)
      have hne : ((wv : Int) != 0) = true := by simp; omega
      generalize Lib.ctz 64 wv = t at HTZ t1 t2 t3
      have htl : left.testBit t = true := HASK.out.1 t t1
      have htn : t < l.length := ((HO.out.bits t).1 htl).1
      have hnf : cA l l.length 0 t = FK.em (FK.dg l t) := by simp [cA, htn]
      obtain ⟨nf, hnfe⟩ : ∃ nf, nf = cA l l.length 0 t := ⟨_, rfl⟩
      have hnf4 : nf < 4096 := by rw [hnfe]; exact iQ (n := 12) fun i x hx => by have := HV.out i x hx; omega
      have hcell : w'.cell? ⟨w.heap.size, t, none⟩ = some (.int .u64 (nf : Nat)) := by rw [HB.out.cell, hnfe]; exact eS htn
      have hzero := FK.f9 (FK.dg l t) left
      rw [← hnf, ← hnfe] at hzero
      have HZERO := Lib.hid hzero
      have T1 := Lib.hid t1
      have T2 := Lib.hid t2
      have TL := Lib.hid htl
      have HZ := Lib.hid hz
      by_cases hb : nf &&& left = 0
      · have hand : bits BinOp.and IntKind.u64 (nf : Int) (left : Int) = 0 := by rw [fd _ _ hnf4 hl4, hb]; rfl
        have hsh : IntKind.u64.wrap (2 ^ t) = 2 ^ t := jc t3
        have handn : bits BinOp.andNot IntKind.u64 (left : Int) (2 ^ t) = ((clr left t : Nat) : Int) := by
         have hp : 2 ^ t < 2 ^ 64 := Nat.pow_lt_pow_right (by omega) t3
         have := u64_andNot_nat left (2 ^ t) (by omega) (by simpa using hp)
         simpa [clr] using this
        have hfree : ∀ k ∈ FK.dg l t, left.testBit k = false := hzero.1 hb
        have htold : ∀ j ∈ FK.dg l t, j ∈ T := fun j hj => Classical.byContradiction fun hn => by
         have h1 := (HO.out.bits j).2 ⟨HV.out t j hj, hn⟩
         rw [hfree j hj] at h1; cases h1
        have HTELL := Lib.hid (HT.out w' T t HI1.out htn ((HO.out.bits t).1 htl).2 htold)
        have HFREE := Lib.hid hfree
        clear hnf hnfe hzero t1 t2 htl hz hb hfree htold
        go_wp2_with (go_at_call 141; refine HTZ.out.mono ?_; rintro e w2 ⟨rfl, rfl⟩)
        refine HTELL.out.mono ?_
        rintro e w3 ⟨rfl, hi3, hsz3, hsame3⟩
        have HI3 := Lib.hid hi3
        have HSAME3 := Lib.hid hsame3
        clear hi3 hsame3
        go_wp2
        go_step3
        exact ⟨rfl, ⟨clr left t, T ++ [t], _, _, _, _, _, _, _, _, _, _, _, _, _, _, _, _, _, _, _, _, _, _, _, _, _, _, _, _, _, _, _, _, _, _, _, _, _, _, _, _, _, _, _, _, _, _, _, _, _, _, _, _, _, _, _, _, _, _, _, _, _, _, _, rfl, HI3.out, HO.out.tell TL.out HFREE.out (gu t3 (by omega)), (HSAME3.out _ (Nat.le_refl _) hsz).trans HB.out⟩, by have := clr_lt t3 (by omega) TL.out; simpa [intOf] using this⟩
      · have hand : bits BinOp.and IntKind.u64 (nf : Int) (left : Int) = ((nf &&& left : Nat) : Int) := fd _ _ hnf4 hl4
        have hne2 : (((nf &&& left : Nat) : Int) == 0) = false := by simp; omega
        have hw : bits BinOp.and IntKind.u64 (wv : Int) ((wv : Int) - 1) = ((wv &&& (wv - 1) : Nat) : Int) := by
         have := fd wv (wv - 1) hw4 (by omega)
         rwa [show ((wv - 1 : Nat) : Int) = (wv : Int) - 1 by omega] at this
        have hdec := kw hz
        have hex : ∃ k ∈ FK.dg l t, left.testBit k = true := Classical.byContradiction fun hn => hb (hzero.2 fun k hk => by
         cases hx : left.testBit k with
         | false => rfl
         | true => exact absurd ⟨k, hk, hx⟩ hn)
        have HEX := Lib.hid hex
        have hz1 : 1 ≤ wv := by omega
        clear hnf hnfe hzero t1 t2 htl hz hb hex
        go_wp2_with (go_at_call 141; refine HTZ.out.mono ?_; rintro e w2 ⟨rfl, rfl⟩)
        go_round
        case rel => exact ⟨wv &&& (wv - 1), rfl, rfl, HASK.out.next T1.out T2.out HEX.out, by omega⟩
        case measure => simp [intOf]; omega
end
open Go Go.RowKit Go.Deep
section
variable {xs : List Value} {e : TypeId} {v : Value} {base size : Nat}
theorem rE {w : World} {n : Nat} (h : w.ownsRow base e size v n xs) : ∃ A c, v = .slice A n c ∧ (A = none → n = 0 ∧ c = 0) ∧ n ≤ c ∧ c ≤ maxLen := by
 rcases h.2 with ⟨rfl, rfl⟩ | ⟨g, cap, cur, rfl, _, _, h1, h2, _⟩
 · exact ⟨none, 0, rfl, fun _ => ⟨rfl, rfl⟩, Nat.le_refl _, Nat.zero_le _⟩
 · exact ⟨_, cap, rfl, (fun h => by cases h), h1, h2⟩
theorem yo {w : World} {n : Nat} (h : w.ownsRow base e size v n xs) {k : Nat} (hk : v.ownBlock = some k) : base ≤ k ∧ k < w.heap.size := h.lt k hk
end
section
variable {P : Program} (w : World)
theorem run_app_nothing (base : Nat) (t ty e : TypeId) (i : TypeInfo) (size : Nat) (ht : P.underlying t = some (.slice e)) (hi : P.info? e = some i)
 (v : Value) (n : Nat) (xs : List Value) (hown : w.ownsRow base e size v n xs) (c : Nat) : (Builtin.append_ #[t, t] ty #[v, .slice none 0 c]).run P w = .ok v w := by
 rcases hown.2 with ⟨rfl, rfl⟩ | ⟨g, cap, cur, rfl, _, _, hnc, _⟩
 · simp [Builtin.append_, run_underlying ht, sizeOf, typeInfo, hi, Builtin.lenOf, Builtin.firstCells]
 · simp [Builtin.append_, run_underlying ht, sizeOf, typeInfo, hi, Builtin.lenOf, Builtin.firstCells, hnc, storeCells]
end
open Go Go.RowKit Go.Deep
def eQ (b o : Nat) : Array Value := #[.pointer (some ⟨b, o, none⟩), .pointer (some ⟨b, o + 1, none⟩), .pointer (some ⟨b, o + 2, none⟩), .pointer (some ⟨b, o + 3, none⟩), .pointer (some ⟨b, o + 4, none⟩), .pointer (some ⟨b, o + 5, none⟩)]
theorem put6 {w : World} {g : Nat} {t : TypeId} {x0 x1 x2 x3 x4 x5 : Value} (h : Blk w g t #[x0, x1, x2, x3, x4, x5]) (u0 u1 u2 u3 u4 u5 : Value) :
 Blk ((((((w.setCell ⟨g, 0, none⟩ u0).setCell ⟨g, 1, none⟩ u1).setCell ⟨g, 2, none⟩ u2).setCell ⟨g, 3, none⟩ u3).setCell ⟨g, 4, none⟩ u4).setCell ⟨g, 5, none⟩ u5) g t #[u0, u1, u2, u3, u4, u5] := by
 have h := h.put 0 u0
 have h := h.put 1 u1
 have h := h.put 2 u2
 have h := h.put 3 u3
 have h := h.put 4 u4
 have h := h.put 5 u5
 simpa using h
set_option maxRecDepth 100000 in
set_option maxHeartbeats 1000000 in
theorem q7 (w : World) (b : Nat) :
 Calls Tryz.prog 143 #[.pointer (some ⟨b, 0, none⟩)] w fun e w' => e = .returned (.agg (eQ b 0)) ∧ Below w.heap.size w w' := by
 go_enter Tryz.func143, Tryz.ntmps143
 go_wp2
 go_still_tail 19, (by kernel_rfl)
 change wpList _ _ _ _ _ ((w.alloc (.cells #[.pointer none, .pointer none, .pointer none, .pointer none, .pointer none, .pointer none] 220)).drew)
 have hblk : Blk ((w.alloc (.cells #[.pointer none, .pointer none, .pointer none, .pointer none, .pointer none, .pointer none] 220)).drew) w.heap.size 220 #[.pointer none, .pointer none, .pointer none, .pointer none, .pointer none, .pointer none] := Blk.made w _ _
 have hb2 : Below w.heap.size w ((w.alloc (.cells #[.pointer none, .pointer none, .pointer none, .pointer none, .pointer none, .pointer none] 220)).drew) := ((Below.refl _ _).alloc (Nat.le_refl _) _).drew
 obtain ⟨w2, hw2⟩ : ∃ w2, w2 = ((w.alloc (.cells #[.pointer none, .pointer none, .pointer none, .pointer none, .pointer none, .pointer none] 220)).drew) := ⟨_, rfl⟩
 rw [← hw2] at hblk hb2 ⊢
 clear hw2
 have c0 := hblk.cell 0
 have c1 := hblk.cell 1
 have c2 := hblk.cell 2
 have c3 := hblk.cell 3
 have c4 := hblk.cell 4
 have c5 := hblk.cell 5
 have f0 := hblk.free 0
 have f1 := hblk.free 1
 have f2 := hblk.free 2
 have f3 := hblk.free 3
 have f4 := hblk.free 4
 have f5 := hblk.free 5
 simp only [List.getElem?_toArray, List.getElem?_cons_zero, List.getElem?_cons_succ] at c0 c1 c2 c3 c4 c5
 have HB := Lib.hid hblk
 clear hblk
 go_wp2
 have hbF : Below w.heap.size w ((((((w2.setCell ⟨w.heap.size, 0, none⟩ (.pointer (some ⟨b, 0, none⟩))).setCell ⟨w.heap.size, 1, none⟩ (.pointer (some ⟨b, 1, none⟩))).setCell ⟨w.heap.size, 2, none⟩ (.pointer (some ⟨b, 2, none⟩))).setCell ⟨w.heap.size, 3, none⟩ (.pointer (some ⟨b, 3, none⟩))).setCell ⟨w.heap.size, 4, none⟩ (.pointer (some ⟨b, 4, none⟩))).setCell ⟨w.heap.size, 5, none⟩ (.pointer (some ⟨b, 5, none⟩))) := (((((hb2.setCell (by simp) _).setCell (by simp) _).setCell (by simp) _).setCell (by simp) _).setCell (by simp) _).setCell (by simp) _
 have hfin : Blk (((((((w2.setCell ⟨w.heap.size, 0, none⟩ (.pointer (some ⟨b, 0, none⟩))).setCell ⟨w.heap.size, 1, none⟩ (.pointer (some ⟨b, 1, none⟩))).setCell ⟨w.heap.size, 2, none⟩ (.pointer (some ⟨b, 2, none⟩))).setCell ⟨w.heap.size, 3, none⟩ (.pointer (some ⟨b, 3, none⟩))).setCell ⟨w.heap.size, 4, none⟩ (.pointer (some ⟨b, 4, none⟩))).setCell ⟨w.heap.size, 5, none⟩ (.pointer (some ⟨b, 5, none⟩)))) w.heap.size 220 (eQ b 0) :=
  put6 HB.out _ _ _ _ _ _
 obtain ⟨w3, hw3⟩ : ∃ w3, w3 = ((((((w2.setCell ⟨w.heap.size, 0, none⟩ (.pointer (some ⟨b, 0, none⟩))).setCell ⟨w.heap.size, 1, none⟩ (.pointer (some ⟨b, 1, none⟩))).setCell ⟨w.heap.size, 2, none⟩ (.pointer (some ⟨b, 2, none⟩))).setCell ⟨w.heap.size, 3, none⟩ (.pointer (some ⟨b, 3, none⟩))).setCell ⟨w.heap.size, 4, none⟩ (.pointer (some ⟨b, 4, none⟩))).setCell ⟨w.heap.size, 5, none⟩ (.pointer (some ⟨b, 5, none⟩))) := ⟨_, rfl⟩
 rw [← hw3] at hfin hbF ⊢
 clear hw3 c0 c1 c2 c3 c4 c5 f0 f1 f2 f3 f4 f5 HB hb2
 have d0 := hfin.cell 0
 have d1 := hfin.cell 1
 have d2 := hfin.cell 2
 have d3 := hfin.cell 3
 have d4 := hfin.cell 4
 have d5 := hfin.cell 5
 simp only [eQ, List.getElem?_toArray, List.getElem?_cons_zero, List.getElem?_cons_succ] at d0 d1 d2 d3 d4 d5
 refine bodyPost_ret (v := .agg (eQ b 0)) (by simp [results, Tryz.results143, go_sem, d0, d1, d2, d3, d4, d5, eQ]) rfl ?_
 exact ⟨rfl, hbF⟩
theorem flat_len {α : Type} (f : α → List UInt8) (c : Nat) : ∀ (l : List α), (∀ x ∈ l, (f x).length ≤ c) → (l.flatMap f).length ≤ c * l.length
 | [], _ => by simp
 | x :: l, h => by
  have := flat_len f c l fun y hy => h y (by simp [hy])
  have h0 := h x (by simp)
  simp only [List.flatMap_cons, List.length_append, List.length_cons, Nat.mul_add]; omega
theorem tp {n : FK.Node} {len : Nat} (hlen : len ≤ 12) (hn : FK.cM n) (he : FK.EdgesOk len (-1) n.after) : (FK.dq n).length ≤ 57 := by
 obtain ⟨a1, a2, ⟨b1, b2⟩, ⟨c1, c2⟩, ⟨d1, d2⟩, ⟨e1, e2⟩, f1, f2⟩ := hn
 have hb := he.bounds
 have hal : n.after.length ≤ 12 := by
  rcases he.length_le (by omega) with h | h
  · omega
  · rw [h]; simp
 have h := flat_len (fun k : Int => FK.bA k.toNat) 3 n.after fun k hk => FK.ct (by have := hb k hk; omega)
 have g1 := FK.ct (n := n.CJ.toNat) (by omega)
 have g2 := FK.ct (n := n.close.toNat) (by omega)
 have g3 := FK.ct (n := n.beat.toNat) (by omega)
 have g4 := FK.ct (n := n.base.toNat) (by omega)
 have g5 := FK.ct (n := n.cap.toNat) (by omega)
 have g6 := FK.ct (n := n.CK.toNat) (by omega)
 have g7 := FK.ct (n := n.after.length) (by omega)
 simp only [FK.dq, List.length_append]
 omega
def kX (n : FK.Node) : List Int := [n.CJ, n.close, n.beat, n.base, n.cap, n.CK]
theorem lH (n : FK.Node) : FK.dq n = (kX n).flatMap (fun k => FK.bA k.toNat) ++ FK.bA n.after.length ++ n.after.flatMap fun k => FK.bA k.toNat := by
 simp [FK.dq, kX]
end Go.Proofs.YtmeegfamopaljaaGreatDoor

namespace Go.SL
open Go Go.RowKit Go.Proofs.YtmeegfamopaljaaGreatDoor
section
variable {P : Program} {E : Env} {n : Nat} {D : List Deferred} {ts : List (Nat × Value)} {l : List HP} {ops : Array Oper} {Q : Exit → Act → World → Prop} {rest : List Oper} {i : Nat} {ty : TypeId} {pos : String} {af : Array Edge} {g : Option (Nat × Bool)}
def Gives (P : Program) (G : Env → Prop) (f : FuncId) (args : Array Value) (φ : World → Prop) (R : Value → List HP → Prop) : Prop :=
 ∀ E w, G E → E.is w → φ w → Calls P f args w fun e w' => ∃ v m, e = .returned v ∧ R v m ∧ Holds E w' (m ++ [old E w])
variable {G : Env → Prop}
section
variable {φ : World → Prop} {f : FuncId} {r : List HP} {w0 : World}
theorem Gives.below {f : FuncId} {args : Array Value} {φ : World → Prop} {R : Value → Prop} (h : ∀ E w, G E → E.is w → φ w → Calls P f args w fun e w' => ∃ v, e = .returned v ∧ R v ∧ Below w.heap.size w w') : Gives P G f args φ fun v m => R v ∧ m = [] := fun E w hE hw hφ =>
 (h E w hE hw hφ).mono fun _e _w' ⟨v, he, hR, hb⟩ => ⟨v, [], he, ⟨hR, rfl⟩, (Holds.start hw).below hb⟩
theorem eJ {args : Array Value} {v : Value} (h : ∀ E w, G E → E.is w → φ w → Calls P f args w fun e w' => e = .returned v ∧ Below w.heap.size w w') : Gives P G f args φ fun u m => u = v ∧ m = [] :=
 Gives.below fun E w hE hw hφ => (h E w hE hw hφ).mono fun _ _ ⟨he, hb⟩ => ⟨v, he, rfl, hb⟩
theorem fE {xs : List Operand} {at_ : Array TypeId} {args : List Value} {R : Value → List HP → Prop} {K : Act → World → Prop} (hi : Nat.blt i n = true) (hb : eM P f = true) (hx : evs ts xs = some args) (hE : G E)
 (hs : Gives P G f args.toArray φ R) (hφ : ∀ w, Holds E w l → φ w) (h : ∀ v m, R v m → At E n D ((i, v) :: ts) (m ++ l) K) :
 At E n D ts l (fun a w => (Oper.mk (some i) (.call { callee := .value (.func f), args := xs.toArray, argTypes := at_ }) ty pos af g).wp P a w K Q) := fun a w ft hw => by
 have := cT ft.knows hx
 have hr : (execOp a.eval (Oper.mk (some i) (.call { callee := .value (.func f), args := xs.toArray, argTypes := at_ }) ty pos af g)).run P w = .ok (.enter f args.toArray) w := by
  simp [execOp, resolve, Deferred.ofValue, Act.eval, invoke, this, de hb]
 show (Oper.mk (some i) (.call { callee := .value (.func f), args := xs.toArray, argTypes := at_ }) ty pos af g).wp P a w K Q
 unfold Oper.wp
 rw [hr]
 refine (hs E w hE hw.is (hφ w hw)).mono fun e w' ⟨v, m, he, hR, hh⟩ => ?_
 subst he
 exact h v m hR _ w' (ft.put i (Nat.le_of_ble_eq_true hi) v) (Holds.later hw hh)
theorem Gives.body {fn : Func} {c : Code} {args : List Value} {R : Value → List HP → Prop} (hf : P.funcs[f]? = some fn) (hb : fn.body = some c) (hn : Nat.ble args.length fn.ntmps = true)
 (h : ∀ E w0, G E → E.is w0 → φ w0 → At E fn.ntmps [] (eb 0 args) [old E w0] (c.wp P (kF P fn E [old E w0] R))) : Gives P G f args.toArray φ R := fun E w hE hw hφ => by
 refine calls_of_wp hf hb (h E w hE hw hφ _ _ ⟨?_, rfl, ?_⟩ (Holds.start hw))
 · have := Nat.le_of_ble_eq_true hn
   simp; omega
 · intro i v hi
   obtain ⟨_, h2⟩ := d8 args 0 i v hi
   rw [Nat.sub_zero] at h2
   have hlt : i < args.length := (List.getElem?_eq_some_iff.1 h2).1
   simp [Array.getElem?_append, hlt, (List.getElem?_eq_some_iff.1 h2).2]
theorem rl (s : Sel (old E w0) l r) (h0 : E.is w0) (h : ∀ w, Below w0.heap.size w0 w → φ w) : ∀ w, Holds E w l → φ w := fun w hw => h w (hw.old s h0)
theorem vV {b o : Nat} {v : Value} (s : Sel (old E w0) l r) (h0 : E.is w0) (hv : w0.cell? ⟨b, o, none⟩ = some v) : ∀ w, Holds E w l → bK ⟨b, o, none⟩ v w :=
 rl s h0 fun w hb => by
  have := World.block_lt_of_cell? _ _ hv
  exact (hb.cell this).trans hv
theorem tL {b o : Nat} {vs : List Value} (s : Sel (old E w0) l r) (h0 : E.is w0) (hv : ∀ j v, vs[j]? = some v → w0.cell? ⟨b, o + j, none⟩ = some v) : ∀ w, Holds E w l → gY b o vs w :=
 rl s h0 fun w hb j v hj => by
  have := World.block_lt_of_cell? _ _ (hv j v hj)
  exact (hb.cell this).trans (hv j v hj)
theorem Gives.does {args : Array Value} {R : Value → List HP → Prop} (h : Gives P G f args (fun _ => True) R) : Does P G f args [] R := fun E w _fr hE hw =>
 (h E w hE hw.is trivial).mono fun _e _w' ⟨v, m, he, hR, hh⟩ => ⟨v, m, he, hR, Holds.later hw hh⟩
end
end
end Go.SL
namespace Go.Proofs.YtmeegfamopaljaaGreatDoor
open Go Go.RowKit Go.SL
variable {G : Env → Prop}
abbrev bO (v : Value) (l : List UInt8) : HP := row 5 1 v l.length (bR l)
theorem mO (b : Nat) : Does Tryz.prog G 143 #[.pointer (some ⟨b, 0, none⟩)] [] fun v m => v = .agg (eQ b 0) ∧ m = [] :=
 (eJ (φ := fun _ => True) fun _ w _ _ _ => q7 w b).does
theorem tq {f : FuncId} {args : Array Value} {v : Value} {l l' : List UInt8} (h : ∀ w, iT w 0 v l → Calls Tryz.prog f args w (v6 w 0 v l')) : Does Tryz.prog G f args [bO v l] fun v' m => m = [bO v' l'] := fun E w fr _ hw => by
 refine (h w (hw.row .head)).mono fun e w' ⟨v', he, hown, hg, hm⟩ => ⟨v', _, he, rfl, ?_⟩
 exact j0 hw hg hown hm
theorem eE (v : Value) (l : List UInt8) (m : Nat) (hm : m < 18446744073709551616) (hl : l.length ≤ 1099511627776) : Does Tryz.prog G 142 #[v, .int .u64 m] [bO v l] fun v' r => r = [bO v' (l ++ FK.bA m)] :=
 tq fun w ho => lM w 0 v l m hm ho hl (Nat.zero_le _)
theorem jn {E : Env} {l r : List HP} {w0 : World} {B : Nat} {A : Option Addr} {c : Nat} {ns : List FK.Node} (s : Sel (old E w0) l r) (h0 : E.is w0) (h : NodesAt w0 B A c ns) (hB : B ≤ w0.heap.size) : ∀ w, Holds E w l → NodesAt w w.heap.size A c ns :=
 rl s h0 fun _w hb => (h.keep (hb.to_same.mono hB)).more (Nat.le_trans hB hb.size)
end Go.Proofs.YtmeegfamopaljaaGreatDoor

namespace Go.SL
open Go Go.RowKit
section
variable {P : Program} {G : Env → Prop} {E : Env} {n : Nat} {D : List Deferred} {ts : List (Nat × Value)} {l : List HP} {ops : Array Oper} {Q : Exit → Act → World → Prop} {rest : List Oper} {i : Nat} {ty : TypeId} {pos : String} {af : Array Edge} {g : Option (Nat × Bool)}
section
variable {X : List PanicEntry → List HP → Prop} {K : Act → World → Prop} {s' t t' : TypeId} {ms : Array (String × TypeId)} {fr pre : List HP} {xs : List Operand} {f : FuncId} {q r s : ResultVar} {fn : Func} {c : List PanicEntry} {w : World} {φ : World → Prop} {a : Act} {y : Operand} {m : String}
theorem aw {b : Nat} {cs : Array Value} {fz : Nat × Nat} {r : List HP} {vs : List Value} [h : Has b l (.cells cs t fz) r] (hv : cs = vs.toArray) : ∀ w, Holds E w l → gY b 0 vs w := vg fun j v hj => by
 subst hv
 simpa using hj
def DoesX (P : Program) (G : Env → Prop) (f : FuncId) (args : Array Value) (pre : List HP) (R : Value → List HP → Prop) (X : List PanicEntry → List HP → Prop) : Prop :=
 ∀ E w fr, G E → Holds E w (pre ++ fr) → Calls P f args w fun e w' => (∃ v m, e = .returned v ∧ R v m ∧ Holds E w' (m ++ fr)) ∨ ∃ c m, e = .panicked c ∧ X c m ∧ Holds E w' (m ++ fr)
def yc (P : Program) (fn : Func) (E : Env) (fr : List HP) (R : Value → List HP → Prop) (X : List PanicEntry → List HP → Prop) : Exit → Act → World → Prop :=
 bodyPost P fn fun e w' => (∃ v m, e = .returned v ∧ R v m ∧ Holds E w' (m ++ fr)) ∨ ∃ c m, e = .panicked c ∧ X c m ∧ Holds E w' (m ++ fr)
theorem DoesX.body {c : Code} {args : List Value} {R : Value → List HP → Prop} (hf : P.funcs[f]? = some fn) (hb : fn.body = some c) (hn : Nat.ble args.length fn.ntmps = true)
 (h : ∀ E fr, G E → At E fn.ntmps [] (eb 0 args) (pre ++ fr) (c.wp P (yc P fn E fr R X))) : DoesX P G f args.toArray pre R X := by
 intro E w fr hE hw
 refine calls_of_wp hf hb (h E fr hE _ _ ⟨?_, rfl, ?_⟩ hw)
 · have := Nat.le_of_ble_eq_true hn
   simp; omega
 · intro i v hi
   obtain ⟨_, h2⟩ := d8 args 0 i v hi
   rw [Nat.sub_zero] at h2
   have hlt : i < args.length := (List.getElem?_eq_some_iff.1 h2).1
   simp [Array.getElem?_append, hlt, (List.getElem?_eq_some_iff.1 h2).2]
theorem lD {R : Value → List HP → Prop} {e : Exit} (he : e = .ret ∨ e = .normal) (h : At E n D ts l (kF P fn E fr R e)) : At E n D ts l (yc P fn E fr R X e) := fun a w f hw => by
 have := h a w f hw
 rcases he with rfl | rfl
 · obtain ⟨hd, v, hr, hx⟩ := this
   exact ⟨hd, v, hr, .inl hx⟩
 · obtain ⟨hd, v, hr, hx⟩ := this
   exact ⟨hd, v, hr, .inl hx⟩
theorem fX {R : Value → List HP → Prop} (m : List HP) (hX : X c m) (hm : Ent l (m ++ fr)) : At E n [] ts l (yc P fn E fr R X (.panic c)) := fun _ _ f hw =>
 ⟨f.defers, .inr ⟨c, m, rfl, hX, hw.ent hm⟩⟩
theorem cf (h : At E n D ts l (Q (.panic c))) : At E n D ts l (Exit.then K Q (.panic c)) := h
theorem dx {id : Nat} (h : At E n D ts l (Q (.panic c))) : At E n D ts l (Exit.inBlock id Q (.panic c)) := h
theorem iK {X : Type} {T : X → List (Nat × Value)} {L : X → List HP} {I : X → Prop} {μ : X → Nat} {m : Nat} (h : At E n D ts l (Q (.panic c))) : At E n D ts l (rr n D E T L I μ m Q (.panic c)) := h
theorem vC {x : Operand} {v : Value} {d : Option Tmp} (hx : ev ts x = some (.iface t v)) (h : At E n D ts l (Q (.panic [{ v := .iface t v, recovered := false }]))) : At E n D ts l (fun a w => (Oper.mk d (.panic x) ty pos af g).wp P a w K Q) := fun a w f hw => by
 have hr : (execOp a.eval (Oper.mk d (.panic x) ty pos af g)).run P w = .halt (.panic (.iface t v)) w := by simp [execOp, f.eval hx, Instr.panic]
 show (Oper.mk d (.panic x) ty pos af g).wp P a w K Q
 unfold Oper.wp
 rw [hr]
 exact h a w f hw
theorem pi {o : Oper} {args : Array Value} {R : Value → List HP → Prop} (hr : (execOp a.eval o).run P w = .ok (.enter f args) w) (hE : G E) (hs : DoesX P G f args pre R X) (hw : Holds E w (pre ++ fr))
 (hk : ∀ v m w', R v m → Holds E w' (m ++ fr) → K (a.put o.dst v) w') (hp : ∀ c m w', X c m → Holds E w' (m ++ fr) → Q (.panic c) a w') : o.wp P a w K Q := by
 unfold Oper.wp
 rw [hr]
 refine (hs E w fr hE hw).mono fun e w' h => ?_
 rcases h with ⟨v, m, he, hR, hm⟩ | ⟨c, m, he, hX, hm⟩
 · subst he
   exact hk v m w' hR hm
 · subst he
   exact hp c m w' hX hm
theorem j5 {at_ : Array TypeId} {args : List Value} {R : Value → List HP → Prop} (hi : Nat.blt i n = true) (hb : eM P f = true) (hx : evs ts xs = some args) (hE : G E)
 (hs : DoesX P G f args.toArray pre R X) (hl : Ent l (pre ++ fr)) (hp : ∀ c m, X c m → At E n D ts (m ++ fr) (Q (.panic c))) (h : ∀ v m, R v m → At E n D ((i, v) :: ts) (m ++ fr) K) :
 At E n D ts l (fun a w => (Oper.mk (some i) (.call { callee := .value (.func f), args := xs.toArray, argTypes := at_ }) ty pos af g).wp P a w K Q) := fun a w ft hw => by
 refine pi (f := f) (args := args.toArray) ?_ hE hs (hw.ent hl) (fun v m w' hR hm => h v m hR _ w' (ft.put i (Nat.le_of_ble_eq_true hi) v) hm) fun c m w' hX hm => hp c m hX a w' ft hm
 have := cT ft.knows hx
 simp [execOp, resolve, Deferred.ofValue, Act.eval, invoke, this, de hb]
theorem rG {x : Operand} {first captured : Array Value} {at_ : Array TypeId} {args : List Value} {R : Value → List HP → Prop} (hi : Nat.blt i n = true)
 (hv : ev ts x = some (.func (.func f) first captured)) (hb : eM P f = true) (hx : evs ts xs = some args) (hE : G E) (hs : DoesX P G f (first ++ args.toArray ++ captured) pre R X) (hl : Ent l (pre ++ fr)) (hp : ∀ c m, X c m → At E n D ts (m ++ fr) (Q (.panic c)))
 (h : ∀ v m, R v m → At E n D ((i, v) :: ts) (m ++ fr) K) :
 At E n D ts l (fun a w => (Oper.mk (some i) (.call { callee := .value x, args := xs.toArray, argTypes := at_ }) ty pos af g).wp P a w K Q) := fun a w ft hw => by
 refine pi (f := f) (args := first ++ args.toArray ++ captured) ?_ hE hs (hw.ent hl) (fun v m w' hR hm => h v m hR _ w' (ft.put i (Nat.le_of_ble_eq_true hi) v) hm) fun c m w' hX hm => hp c m hX a w' ft hm
 have := cT ft.knows hx
 simp [execOp, resolve, Deferred.ofValue, ft.eval hv, invoke, this, de hb]
theorem fS {at_ : Array TypeId} {args : List Value} {v : Value} (hx : evs ts xs = some args) (h : ∀ w, φ w → (callFunc f args.toArray).run P w = .ok (.value v) w) : Ev P ts (.call { callee := .value (.func f), args := xs.toArray, argTypes := at_ }) v φ := by
 intro a w _ _ _ _ _ kn hφ
 have := cT kn hx
 simp [execOp, resolve, Deferred.ofValue, Act.eval, invoke, this, h w hφ]
theorem dy {r : Operand} {u : Value} {u' : Value} {at_ : Array TypeId} {args : List Value} {v : Value} (hr : ev ts r = some (.iface t u)) (hx : evs ts xs = some args) (hm : ∀ w, (Go.method (P.types.size + Made.depth) t u m).run P w = .ok (f, u') w)
 (h : ∀ w, φ w → (callFunc f (u' :: args).toArray).run P w = .ok (.value v) w) : Ev P ts (.call { callee := .invoke r m, args := xs.toArray, argTypes := at_ }) v φ := by
 intro a w _ _ _ _ _ kn hφ
 have h1 := cT kn hx
 have h2 : (#[a.eval r] ++ (xs.toArray.map a.eval)) = #[Value.iface t u] ++ args.toArray := by simp [kn.eval hr, h1]
 simp only [execOp, resolve, Sem.run_bind, Sem.run_pure, Result.andThen_ok, h2, invoke]
 simp [callMethod, hm, h w hφ]
theorem ro {at_ : Array TypeId} {args : List Value} {o : Obj} {v : Nat → Value} (hi : Nat.blt i n = true) (hx : evs ts xs = some args) (hr : ∀ w, (callFunc f args.toArray).run P w = .ok (.value (v w.heap.size)) (w.alloc o))
 (h : ∀ b, At E n D ((i, v b) :: ts) (ob b o :: l) K) : At E n D ts l (fun a w => (Oper.mk (some i) (.call { callee := .value (.func f), args := xs.toArray, argTypes := at_ }) ty pos af g).wp P a w K Q) := fun a w ft hw => by
 have h1 := cT ft.knows hx
 have : (execOp a.eval (Oper.mk (some i) (.call { callee := .value (.func f), args := xs.toArray, argTypes := at_ }) ty pos af g)).run P w = .ok (.value (v w.heap.size)) (w.alloc o) := by
  simp [execOp, resolve, Deferred.ofValue, Act.eval, invoke, h1, hr w]
 show (Oper.mk (some i) (.call { callee := .value (.func f), args := xs.toArray, argTypes := at_ }) ty pos af g).wp P a w K Q
 unfold Oper.wp
 rw [this]
 exact h _ _ _ (ft.put i (Nat.le_of_ble_eq_true hi) _) (hw.alloc _)
theorem ey {r : Operand} {u : Value} {u' : Value} {at_ : Array TypeId} {args : List Value} {R : Value → List HP → Prop} (hi : Nat.blt i n = true) (hr : ev ts r = some (.iface t u)) (hx : evs ts xs = some args)
 (hm : ∀ w, (Go.method (P.types.size + Made.depth) t u m).run P w = .ok (f, u') w) (hb : eM P f = true) (hE : G E) (hs : Does P G f (u' :: args).toArray pre R) (hl : Ent l (pre ++ fr)) (h : ∀ v m, R v m → At E n D ((i, v) :: ts) (m ++ fr) K) :
 At E n D ts l (fun a w => (Oper.mk (some i) (.call { callee := .invoke r m, args := xs.toArray, argTypes := at_ }) ty pos af g).wp P a w K Q) := fun a w ft hw => by
 refine nB (f := f) (args := (u' :: args).toArray) ?_ hE hs (hw.ent hl) fun v m w' hR hm => h v m hR _ w' (ft.put i (Nat.le_of_ble_eq_true hi) v) hm
 have h1 := cT ft.knows hx
 have h2 : (#[a.eval r] ++ (xs.toArray.map a.eval)) = #[Value.iface t u] ++ args.toArray := by simp [ft.eval hr, h1]
 simp only [execOp, resolve, Sem.run_bind, Sem.run_pure, Result.andThen_ok, h2, invoke]
 simp [callMethod, hm, de hb]
theorem ev_as {x : Operand} {s : TypeId} {u : Value} {d : TypeDesc} (hd : P.underlying s = some d) (hn : (match d with | .interface _ => true | _ => false) = false) (hx : ev ts x = some (.iface s u)) : Ev P ts (.typeAssert x t s true) (.tuple #[u, .bool true]) Any := by
 intro a w _ _ _ _ _ kn _
 simp only [execOp, kn.eval hx, Instr.typeAssert, Sem.run_bind, run_underlying hd, Result.andThen_ok]
 cases d <;> simp_all
theorem Cx {x : Operand} {s : TypeId} {u : Value} (hd : P.underlying s = some (.interface ms)) (hx : ev ts x = some (.iface s' u)) (hl : (P.info? s').map (fun i => (Go.lacking ms i.methods).isEmpty) = some true) : Ev P ts (.typeAssert x t s true) (.tuple #[.iface s' u, .bool true]) Any := by
 intro a w _ _ _ _ _ kn _
 simp [execOp, kn.eval hx, Go.run_typeAssert_hasB hd hl u t w]
theorem ko {x : Operand} {s : TypeId} {u z : Value} (hd : P.underlying s = some (.interface ms)) (hx : ev ts x = some (.iface s' u)) (hl : (P.info? s').map (fun i => (Go.lacking ms i.methods).isEmpty) = some false) (hz : (P.info? s).map (·.zero) = some (some z)) : Ev P ts (.typeAssert x t s true) (.tuple #[z, .bool false]) Any := by
 intro a w _ _ _ _ _ kn _
 simp [execOp, kn.eval hx, Go.run_typeAssert_lacksB hd hl hz u t w]
theorem xx {x : Operand} {s : TypeId} {u v : Value} (ht : P.underlying t = some (.interface ms)) (hx : ev ts x = some (.iface s u)) (hy : ev ts y = some (.iface s' v)) (hne : Nat.beq s s' = false) : Ev P ts (.binOp .eql t x y t') (.bool false) Any := by
 intro ac w _ _ _ _ _ kn _
 have : s ≠ s' := fun e => by subst e; simp at hne
 exact dm (kn.eval hx) (kn.eval hy) (by simp [eqGuard]) (jh Z fun d => by simp [Op.equalIn, run_underlying ht, this])
theorem nT {x : Operand} {s : TypeId} {k : IntKind} {u v : Int} {ti : TypeInfo} {r : Bool} (ht : P.underlying t = some (.interface ms)) (hs : P.underlying s = some (.int k)) (hi : P.info? s = some ti) (hc : ti.comparable = true) (hx : ev ts x = some (.iface s (.int k u))) (hy : ev ts y = some (.iface s (.int k v))) (hr : (u == v) = r) : Ev P ts (.binOp .eql t x y t') (.bool r) Any := by
 intro ac w _ _ _ _ _ kn _
 subst hr
 refine dm (kn.eval hx) (kn.eval hy) (by simp [eqGuard]) ?_
 have h : ∀ d, (Op.equalIn (d + 2) t (.iface s (.int k u)) (.iface s (.int k v))).run P w = .ok (u == v) w := fun d => by
  simp [Op.equalIn, run_underlying ht, run_underlying hs, typeInfo, hi, hc]
 show (do pure (.bool (← Op.equal t (.iface s (.int k u)) (.iface s (.int k v)))) : Sem Value).run P w = _
 simp only [Op.equal, Op.maxDepth, Sem.run_bind, h 9998, Result.andThen_ok, Sem.run_pure]
def Res (P : Program) (E : Env) (ts : List (Nat × Value)) (l : List HP) (r : ResultVar) (v : Value) : Prop :=
 ∀ (a : Act) (w : World), (∀ i u, look i ts = some u → a.tmps[i]? = some u) → Holds E w l → ((match r with | .tmp t => pure (a.tmps.getD t undef) | .cell c t => do loadVar t (← asAddr (a.tmps.getD c undef))) : Sem Value).run P w = .ok v w
theorem Res.tmp {t : Nat} {v : Value} (h : look t ts = some v) : Res P E ts l (.tmp t) v := fun a w k _ => by simp [gH (k t v h)]
theorem eR {c : Nat} {p : Addr} {v : Value} (hd : iG P t = some false) (h : look c ts = some (.pointer (some p))) (hc : ∀ w, Holds E w l → bK p v w) : Res P E ts l (.cell c t) v := fun a w k hw => by
 simp only [gH (k c _ h), asAddr, Sem.run_bind, Sem.run_pure, Result.andThen_ok]
 exact d6 hd (hc w hw)
theorem bZ {c : Nat} {b o m : Nat} {vs : List Value} (hd : iG P t = some true) (hz : ce P t m) (hm : vs.length = m) (h : look c ts = some (.pointer (some ⟨b, o, none⟩))) (hc : ∀ w, Holds E w l → gY b o vs w) : Res P E ts l (.cell c t) (.agg vs.toArray) := fun a w k hw => by
 simp only [gH (k c _ h), asAddr, Sem.run_bind, Sem.run_pure, Result.andThen_ok]
 exact qP hd hz hm (hc w hw)
theorem sA {v : Value} (hr : fn.results = #[r]) (h : Res P E ts l r v) (k : ∀ i u, look i ts = some u → a.tmps[i]? = some u) (hw : Holds E w l) : (results fn a.tmps).run P w = .ok v w := by
 have := h a w k hw
 simp only [results, hr]
 simp only [Array.mapM_eq_mapM_toList, List.mapM_cons, List.mapM_nil, Sem.run_bind, Sem.run_map]
 cases r <;> simp_all
theorem sy {u v : Value} (hr : fn.results = #[r, s]) (h : Res P E ts l r u) (h' : Res P E ts l s v) (k : ∀ i u, look i ts = some u → a.tmps[i]? = some u) (hw : Holds E w l) : (results fn a.tmps).run P w = .ok (.tuple #[u, v]) w := by
 have h1 := h a w k hw
 have h2 := h' a w k hw
 simp only [results, hr]
 simp only [Array.mapM_eq_mapM_toList, List.mapM_cons, List.mapM_nil, Sem.run_bind, Sem.run_map]
 cases r <;> cases s <;> simp_all
theorem sx {u v x : Value} (hr : fn.results = #[r, s, q]) (h : Res P E ts l r u) (h' : Res P E ts l s v) (h'' : Res P E ts l q x) (k : ∀ i u, look i ts = some u → a.tmps[i]? = some u) (hw : Holds E w l) : (results fn a.tmps).run P w = .ok (.tuple #[u, v, x]) w := by
 have h1 := h a w k hw
 have h2 := h' a w k hw
 have h3 := h'' a w k hw
 simp only [results, hr]
 simp only [Array.mapM_eq_mapM_toList, List.mapM_cons, List.mapM_nil, Sem.run_bind, Sem.run_map]
 cases r <;> cases s <;> cases q <;> simp_all
theorem nl {R : Value → List HP → Prop} {v : Value} (m : List HP) (hr : fn.results = #[r]) (h : Res P E ts l r v) (hR : R v m) (hm : Ent l (m ++ fr)) : At E n [] ts l (kF P fn E fr R .ret) := fun _ _ f hw =>
 ⟨f.defers, v, sA hr h f.get hw, _, m, rfl, hR, hw.ent hm⟩
theorem fe {R : Value → List HP → Prop} {u v : Value} (m : List HP) (hr : fn.results = #[r, s]) (h : Res P E ts l r u) (h' : Res P E ts l s v) (hR : R (.tuple #[u, v]) m) (hm : Ent l (m ++ fr)) : At E n [] ts l (kF P fn E fr R .ret) := fun _ _ f hw =>
 ⟨f.defers, _, sy hr h h' f.get hw, _, m, rfl, hR, hw.ent hm⟩
theorem ir {R : Value → List HP → Prop} {u v x : Value} (m : List HP) (hr : fn.results = #[r, s, q]) (h : Res P E ts l r u) (h' : Res P E ts l s v) (h'' : Res P E ts l q x) (hR : R (.tuple #[u, v, x]) m) (hm : Ent l (m ++ fr)) : At E n [] ts l (kF P fn E fr R .ret) := fun _ _ f hw =>
 ⟨f.defers, _, sx hr h h' h'' f.get hw, _, m, rfl, hR, hw.ent hm⟩
end
end
open Go Go.RowKit
section
variable {P : Program} {G : Env → Prop} {E : Env} {n : Nat} {D : List Deferred} {ts : List (Nat × Value)} {l : List HP} {ops : Array Oper} {Q : Exit → Act → World → Prop} {rest : List Oper} {i : Nat} {ty : TypeId} {pos : String} {af : Array Edge} {g : Option (Nat × Bool)}
section
variable {f : FuncId} {fr l' pre : List HP} {u' : FrameMode} {fn : Func}
def jO (P : Program) : List Field → Option (List (Nat × Nat))
 | [] => some []
 | f :: fs => match P.info? f.type, jO P fs with
  | some i, some r => some ((f.offset, i.size) :: r)
  | _, _ => none
theorem om {w : World} : ∀ {fs : List Field} {pl : List (Nat × Nat)}, jO P fs = some pl → (fs.mapM fun f => (do pure (f.offset, ← sizeOf f.type) : Sem (Nat × Nat))).run P w = .ok pl w
 | [], pl, h => by simp [jO] at h; subst h; simp
 | f :: fs, pl, h => by
  simp only [jO] at h
  split at h
  · rename_i i r hi hr
    injection h with h
    subst h
    have hsz : (sizeOf f.type).run P w = .ok i.size w := by simp [sizeOf, typeInfo, hi]
    rw [List.mapM_cons]
    simp only [Sem.run_bind, hsz, Result.andThen_ok, Sem.run_pure, om hr]
  · cases h
theorem bn {t : TypeId} {fs : Array Field} {pl : List (Nat × Nat)} {z : Value} {ps : List (Nat × Operand)} {vs : List Value} {cs : Array Value} (hu : P.underlying t = some (.struct fs)) (hp : jO P fs.toList = some pl) (hz : fA P t z)
 (hx : evs ts (ps.map (·.2)) = some vs) (hf : Instr.fill (pl.toArray[·]?) z.cells ((ps.map (·.1)).zip vs) = some cs) : Ev P ts (.build t ps.toArray) (.agg cs) Any := by
 intro a w _ _ _ _ _ kn _
 have he : (ps.toArray.map fun p => (p.1, a.eval p.2)).toList = (ps.map (·.1)).zip vs := by
  have := cT kn hx
  rw [← this]
  simp
  clear hx hf this
  induction ps with
  | nil => rfl
  | cons p ps ih => simp; exact ih
 simp only [execOp, Instr.build, Sem.run_bind, fj hz, run_underlying hu, Result.andThen_ok, Array.mapM_eq_mapM_toList, Sem.run_map, om hp, he]
 simp only [Result.andThen_ok, hf, Sem.run_pure]
def DoesD (P : Program) (G : Env → Prop) (f : FuncId) (args : Array Value) (u u' : FrameMode) (pre : List HP) (R : List HP → Prop) : Prop :=
 ∀ E w fr, G E → Holds E w (pre ++ fr) → CallsD P f args u w fun e u'' w' => e = .returned (.tuple #[]) ∧ u'' = u' ∧ ∃ m, R m ∧ Holds E w' (m ++ fr)
def yd (P : Program) (fn : Func) (E : Env) (fr : List HP) (R : Value → List HP → Prop) : Exit → Act → World → Prop :=
 bodyPostD P fn fun e w' => ∃ v m, e = .returned v ∧ R v m ∧ Holds E w' (m ++ fr)
theorem kV {c : Code} {args : List Value} {R : Value → List HP → Prop} (hf : P.funcs[f]? = some fn) (hb : fn.body = some c) (hn : Nat.ble args.length fn.ntmps = true)
 (h : ∀ E fr, G E → At E fn.ntmps [] (eb 0 args) (pre ++ fr) (c.wp P (yd P fn E fr R))) : Does P G f args.toArray pre R := by
 intro E w fr hE hw
 refine calls_of_wp_defers hf hb (h E fr hE _ _ ⟨?_, rfl, ?_⟩ hw)
 · have := Nat.le_of_ble_eq_true hn
   simp; omega
 · intro i v hi
   obtain ⟨_, h2⟩ := d8 args 0 i v hi
   rw [Nat.sub_zero] at h2
   have hlt : i < args.length := (List.getElem?_eq_some_iff.1 h2).1
   simp [Array.getElem?_append, hlt, (List.getElem?_eq_some_iff.1 h2).2]
theorem qy {x : Operand} {first cap : Array Value} {K : Act → World → Prop} (hx : ev ts x = some (.func (.func f) first cap)) (h : At E n ({ target := .fn (.func f) cap, args := first } :: D) ts l K) :
 At E n D ts l (fun a w => (Oper.mk none (.defer { callee := .value x, args := #[], argTypes := #[] }) ty pos af g).wp P a w K Q) := fun a w ft hw => by
 have hr : (execOp a.eval (Oper.mk none (.defer { callee := .value x, args := #[], argTypes := #[] }) ty pos af g)).run P w = .ok (.defer { target := .fn (.func f) cap, args := first }) w := by
  simp [execOp, resolve, Deferred.ofValue, ft.eval hx]
 show (Oper.mk none (.defer { callee := .value x, args := #[], argTypes := #[] }) ty pos af g).wp P a w K Q
 unfold Oper.wp
 rw [hr]
 exact h _ w ⟨ft.size, by simp [Act.put, ft.defers], fun i v hi => ft.get i v hi⟩ hw
theorem At.leave {R : Value → List HP → Prop} {first cap : Array Value} {Rd : List HP → Prop} {e : Exit} (he : e = .ret ∨ e = .normal) (hu : settle u' = .returning) (hb : eM P f = true) (hE : G E)
 (hs : DoesD P G f (first ++ cap) .returning u' pre Rd) (hl : Ent l (pre ++ l')) (h : ∀ m, Rd m → At E n [] ts (m ++ l') (kF P fn E fr R .ret)) : At E n [{ target := .fn (.func f) cap, args := first }] ts l (yd P fn E fr R e) := fun a w ft hw => by
 have key : Leaves P fn a.tmps (fun e w' => ∃ v m, e = .returned v ∧ R v m ∧ Holds E w' (m ++ fr)) a.defers .returning w := by
  rw [ft.defers]
  refine leaves_cons (f := f) (args := first ++ cap) (by simp) (by simp [invoke, de hb]) ((hs E w l' hE (hw.ent hl)).mono ?_)
  rintro e u'' w' ⟨rfl, rfl, m, hm, hh⟩
  simp only [hu]
  obtain ⟨_, v, hr, hx⟩ := h m hm { a with defers := [] } w' ⟨ft.size, rfl, ft.get⟩ hh
  exact ⟨v, hr, hx⟩
 rcases he with rfl | rfl <;> exact key
theorem mg {R : Value → List HP → Prop} {first cap : Array Value} {Rd : List HP → Prop} {c : List PanicEntry} (hu : settle u' = .returning) (hb : eM P f = true) (hE : G E)
 (hs : DoesD P G f (first ++ cap) (.panicking c) u' pre Rd) (hl : Ent l (pre ++ l')) (h : ∀ m, Rd m → At E n [] ts (m ++ l') (kF P fn E fr R .ret)) : At E n [{ target := .fn (.func f) cap, args := first }] ts l (yd P fn E fr R (.panic c)) := fun a w ft hw => by
 show Leaves P fn a.tmps (fun e w' => ∃ v m, e = .returned v ∧ R v m ∧ Holds E w' (m ++ fr)) a.defers (.panicking c) w
 rw [ft.defers]
 refine leaves_cons (f := f) (args := first ++ cap) (by simp) (by simp [invoke, de hb]) ((hs E w l' hE (hw.ent hl)).mono ?_)
 rintro e u'' w' ⟨rfl, rfl, m, hm, hh⟩
 simp only [hu]
 obtain ⟨_, v, hr, hx⟩ := h m hm { a with defers := [] } w' ⟨ft.size, rfl, ft.get⟩ hh
 exact ⟨v, hr, hx⟩
theorem DoesD.recover {f : FuncId} {fn : Func} {c : Code} {id d : Nat} {args : List Value} {u u' : FrameMode} {v : Value} {pre : List HP} {R : List HP → Prop} (hf : P.funcs[f]? = some fn)
 (hb : fn.body = some (.seq (.region id #[⟨some d, .call { callee := .builtin .recover, args := #[], argTypes := #[] }, ty, pos, af, none⟩] false) c)) (hn : Nat.ble args.length fn.ntmps = true) (hd : Nat.blt d fn.ntmps = true)
 (hu : (u = .returning ∧ u' = .returning ∧ v = .nilIface) ∨ ∃ older, u = .panicking ({ v := v, recovered := false } :: older) ∧ u' = .panicking ({ v := v, recovered := true } :: older))
 (h : ∀ E fr, G E → At E fn.ntmps [] ((d, v) :: eb 0 args) (pre ++ fr) (c.wp P (kF P fn E fr fun v m => v = .tuple #[] ∧ R m))) : DoesD P G f args.toArray u u' pre R := by
 intro E w fr hE hw
 refine callsD_of_wpS hf hb fun c₀ cs hc => ?_
 have hfit : Fits fn.ntmps [] (eb 0 args) { tmps := args.toArray ++ Array.replicate (fn.ntmps - args.toArray.size) undef, defers := [] } := by
  refine ⟨?_, rfl, ?_⟩
  · have := Nat.le_of_ble_eq_true hn
    simp; omega
  · intro i v hi
    obtain ⟨_, h2⟩ := d8 args 0 i v hi
    rw [Nat.sub_zero] at h2
    have hlt : i < args.length := (List.getElem?_eq_some_iff.1 h2).1
    simp [Array.getElem?_append, hlt, (List.getElem?_eq_some_iff.1 h2).2]
 have hk := h E fr hE _ w (hfit.put d (Nat.le_of_ble_eq_true hd) v) hw
 have hrest : ∀ c₁ : Frame, c₁ = { c₀ with mode := u' } → c.wpS P (bodyPostS P fn c₀ cs fun e u'' w' => e = .returned (.tuple #[]) ∧ u'' = u' ∧ ∃ m, R m ∧ Holds E w' (m ++ fr)) (({ tmps := args.toArray ++ Array.replicate (fn.ntmps - args.toArray.size) undef, defers := [] } : Act).put (some d) v) (c₁ :: cs) w := by
  rintro c₁ rfl
  refine wpS_of_wp (Code.wp_mono ?_ hk)
  intro e a w' hq
  cases e with
  | normal => exact let ⟨h1, v, h2, v', m, h3, ⟨h4, h5⟩, h6⟩ := hq; ⟨h1, u', rfl, v, h2, by rw [h3, h4], rfl, m, h5, h6⟩
  | ret => exact let ⟨h1, v, h2, v', m, h3, ⟨h4, h5⟩, h6⟩ := hq; ⟨h1, u', rfl, v, h2, by rw [h3, h4], rfl, m, h5, h6⟩
  | panic c => exact let ⟨_, v', m, h3, _⟩ := hq; by cases h3
  | exit _ => exact hq.elim
  | goto _ => exact hq.elim
  | outgrown => exact let ⟨v', m, h3, _⟩ := hq; by cases h3
 apply wpS_seq
 apply wpS_region
 have hex : ∀ (a : Act) (w : World), (execOp a.eval ⟨some d, .call { callee := .builtin .recover, args := #[], argTypes := #[] }, ty, pos, af, none⟩).run P w = .ok .recover w := fun a w => by
  simp [execOp, resolve, invoke, builtin]
 simp only [List.size_toArray, List.length_cons, List.length_nil, Nat.zero_add, List.range_one, wpOpsS, List.getElem?_toArray, List.getElem?_cons_zero, Region.wanted, if_true, hex]
 rcases hu with ⟨rfl, rfl, rfl⟩ | ⟨older, rfl, rfl⟩
 · have hrec : recoverD (c₀ :: cs) = none := by simp [recoverD, hc]
   simp only [hrec, Exit.thenS]
   exact hrest c₀ (by cases c₀; simp_all)
 · have hrec : recoverD (c₀ :: cs) = some (v, { c₀ with mode := .panicking ({ v := v, recovered := true } :: older) } :: cs) := by simp [recoverD, hc]
   simp only [hrec, Exit.thenS]
   exact hrest _ Z
end
end
open Go Go.RowKit
section
variable {P : Program} {E : Env} {n : Nat} {D : List Deferred} {ts : List (Nat × Value)} {l : List HP} {ops : Array Oper} {Q : Exit → Act → World → Prop} {rest : List Oper} {i : Nat} {ty : TypeId} {pos : String} {af : Array Edge}
section
variable {φ : World → Prop} {K : Act → World → Prop} {b d : Bool} {c y : Operand}
def gv (k : Bool) (v : Value) : Value := if k then v else undef
theorem L.bool {op : Op} (hi : Nat.blt i n = true) (hev : Ev P ts op (.bool d) φ) (hφ : ∀ w, Holds E w l → φ w) (h : ∀ c : Bool, c = d → At E n D ((i, .bool c) :: ts) l (wpList P ops Q rest)) :
 At E n D ts l (wpList P ops Q (⟨some i, op, ty, pos, af, none⟩ :: rest)) := L.val hi hev hφ (h d rfl)
def AtT (E : Env) (n : Nat) (D : List Deferred) (T : Bool → List (Nat × Value)) (c : Bool) (l : List HP) (K : Act → World → Prop) : Prop := At E n D (T c) l K
theorem nu {T : Bool → List (Nat × Value)} (c : Bool) (hT : ts = T c) (h : AtT E n D T c l K) : At E n D ts l K := by
 subst hT
 exact h
theorem L.g {T : Bool → List (Nat × Value)} {c : Bool} {op : Op} {v : Value} {j t : Nat} (hi : Nat.blt i n = true) (ht : (ops[j]?).bind (·.dst) = some t) (hv : ∀ c, look t (T c) = some (.bool c)) (hev : Ev P (T b) op v φ) (hφ : ∀ w, Holds E w l → φ w)
 (h : At E n D ((i, gv (c == b) v) :: T c) l (wpList P ops Q rest)) : AtT E n D T c l (wpList P ops Q (⟨some i, op, ty, pos, af, some (j, b)⟩ :: rest)) := by
 unfold AtT
 by_cases hc : c = b
 · subst hc
   refine L.on Z ht (hv c) (qo hi hev hφ ?_)
   have : gv (c == c) v = v := by simp [gv]
   rwa [this] at h
 · have hcb : c = !b := by cases c <;> cases b <;> simp_all
   refine L.off Z hi Z ht (hv c) hcb ?_
   have : gv (c == b) v = undef := by simp [gv, hc]
   rwa [this] at h
theorem pB {g : Option (Nat × Bool)} {f : FuncId} {xs : List Operand} {at_ : Array TypeId} {args : List Value} {b j : Nat} {tb : TypeId} {cs : Array Value} {u v : Value} {r : List HP} [hh : Has b l (.cells cs tb) r] (hi : Nat.blt i n = true) (hx : evs ts xs = some args) (hφ : ∀ w, Holds E w l → φ w)
 (hr : ∀ w, φ w → w.heap[b]? = some (.cells cs tb) → (callFunc f args.toArray).run P w = .ok (.value u) (w.setCell ⟨b, j, none⟩ v))
 (h : At E n D ((i, u) :: ts) (blk b tb (cs.setIfInBounds j v) :: r) K) : At E n D ts l (fun a w => (Oper.mk (some i) (.call { callee := .value (.func f), args := xs.toArray, argTypes := at_ }) ty pos af g).wp P a w K Q) := fun a w ft hw => by
 have h1 := cT ft.knows hx
 have : (execOp a.eval (Oper.mk (some i) (.call { callee := .value (.func f), args := xs.toArray, argTypes := at_ }) ty pos af g)).run P w = .ok (.value u) (w.setCell ⟨b, j, none⟩ v) := by
  simp [execOp, resolve, Deferred.ofValue, Act.eval, invoke, h1, hr w (hφ w hw) (hw.ob hh.sel).1]
 show (Oper.mk (some i) (.call { callee := .value (.func f), args := xs.toArray, argTypes := at_ }) ty pos af g).wp P a w K Q
 unfold Oper.wp
 rw [this]
 exact h _ _ (ft.put i (Nat.le_of_ble_eq_true hi) u) (hw.store hh.sel)
theorem uR {x : Operand} (hc : ev ts c = some (.bool b)) (hx : ev ts x = some (gv (b == true) (.bool d))) (hy : ev ts y = some (.bool false)) : Ev P ts (.pick c x y) (.bool (b && d)) Any := by
 have := aq (P := P) hc hx hy
 cases b <;> exact this
theorem xv {x : Operand} (hc : ev ts c = some (.bool b)) (hx : ev ts x = some (.bool true)) (hy : ev ts y = some (gv (b == false) (.bool d))) : Ev P ts (.pick c x y) (.bool (b || d)) Any := by
 have := aq (P := P) hc hx hy
 cases b <;> exact this
end
end
end Go.SL

namespace Go.Proofs.YtmeegfamopaljaaGreatDoor
open Go Go.RowKit Go.Deep
def bp (l : List Int) : List Value := l.map (Value.int .i64)
def av (n : FK.Node) (v : Value) : List Value := [.int .i64 n.CJ, .int .i64 n.close, .int .i64 n.beat, .int .i64 n.base, .int .i64 n.cap, .int .i64 n.CK, v]
def aZ : List FK.Node → List Value → List Value
 | n :: l, v :: vs => av n v ++ aZ l vs
 | _, _ => []
def Bw (w : World) (base : Nat) (v : Value) (l : List Int) : Prop := w.ownsRow base 3 1 v l.length (bp l)
structure OwnNodes (w : World) (base : Nat) (v : Value) (l : List FK.Node) (vs : List Value) : Prop where
 len : vs.length = l.length
 row : w.ownsRow base 46 7 v l.length (aZ l vs)
 ints : ∀ (i : Nat) (n : FK.Node) (u : Value), l[i]? = some n → vs[i]? = some u → Bw w base u n.after
theorem iw : ∀ (l : List FK.Node) (vs : List Value) (n : FK.Node) (v : Value), vs.length = l.length → aZ (l ++ [n]) (vs ++ [v]) = aZ l vs ++ av n v
 | [], [], n, v, _ => by simp [aZ]
 | [], _ :: _, _, _, h => by simp at h
 | _ :: _, [], _, _, h => by simp at h
 | m :: l, u :: vs, n, v, h => by simp only [List.cons_append, aZ, iw l vs n v (by simpa using h), List.append_assoc]
theorem fo : ∀ (l : List FK.Node) (vs : List Value) (i j : Nat) (n : FK.Node) (v : Value), vs.length = l.length → l[i]? = some n → vs[i]? = some v → j < 7 → (aZ l vs)[i * 7 + j]? = (av n v)[j]?
 | [], _, i, _, _, _, _, h, _, _ => by simp at h
 | _ :: _, [], i, _, _, _, h, _, _, _ => by simp at h
 | m :: l, u :: vs, 0, j, n, v, h, h1, h2, hj => by
  simp at h1 h2; subst h1; subst h2
  simp only [aZ, Nat.zero_mul, Nat.zero_add]
  rw [List.getElem?_append_left (by simp [av]; omega)]
 | m :: l, u :: vs, i + 1, j, n, v, h, h1, h2, hj => by
  simp only [List.getElem?_cons_succ] at h1 h2
  simp only [aZ]
  rw [List.getElem?_append_right (by simp [av]; omega)]
  have : (i + 1) * 7 + j - (av m u).length = i * 7 + j := by simp [av]; omega
  rw [this]
  exact fo l vs i j n v (by simpa using h) h1 h2 hj
theorem fF : (Tryz.prog.info? 3).map (fun i => (i.zero, i.size, i.bytes)) = some (some (.int .i64 0), 1, 8) := by kernel_rfl
theorem nN : (Tryz.prog.info? 46).map (fun i => (i.zero, i.size, i.bytes)) = some (some (.agg #[.int .i64 0, .int .i64 0, .int .i64 0, .int .i64 0, .int .i64 0, .int .i64 0, .slice none 0 0]), 7, 72) := by kernel_rfl
def lC (l : List FK.Node) : Prop := l.length * 72 ≤ 140737488355328 ∧ ∀ n ∈ l, n.after.length * 8 ≤ 140737488355328
theorem OwnNodes.nodesAt {w : World} {base : Nat} {A : Option Addr} {c : Nat} {l : List FK.Node} {vs : List Value} (h : OwnNodes w base (.slice A l.length c) l vs)
 (hr : ∀ n ∈ l, (i64 n.CJ ∧ i64 n.close ∧ i64 n.beat ∧ i64 n.base ∧ i64 n.cap ∧ i64 n.CK) ∧ ∀ x ∈ n.after, i64 x) : NodesAt w w.heap.size A c l := by
 have hrow := h.row
 rcases hrow.2 with ⟨he, h0⟩ | ⟨g, cap, cur, he, hb, hg, h1, h2, _⟩
 · injection he with _ _ hc
   subst hc
   exact ⟨by omega, by omega, fun hl => by omega⟩
 · injection he with hA _ hc
   subst hA; subst hc
   refine ⟨h1, by unfold maxLen at h2; omega, fun hl => ⟨g, 0, rfl, (yo hrow rfl).2, fun i n hn => ?_⟩⟩
   obtain ⟨hi, _⟩ := List.getElem?_eq_some_iff.1 hn
   have hu : ∃ u, vs[i]? = some u := ⟨vs[i]'(by rw [h.len]; exact hi), by simp⟩
   obtain ⟨u, hu⟩ := hu
   have hint := h.ints i n u hn hu
   have hcell : ∀ j x, j < 7 → (av n u)[j]? = some x → w.cell? ⟨g, 0 + i * 7 + j, none⟩ = some x := fun j x hj hx => by
    have := hrow.cells (g := g) rfl (i * 7 + j) x (by rw [fo l vs i j n u h.len hn hu hj]; exact hx)
    have e : (⟨g, 0, none⟩ : Addr).add (i * 7 + j) = ⟨g, i * 7 + j, none⟩ := by unfold Addr.add; split <;> simp_all
    rw [e] at this
    rw [Nat.zero_add]; exact this
   obtain ⟨A6, c6, rfl, hA6, h6, h6'⟩ := rE hint
   have hrn := hr n (List.mem_of_getElem? hn)
   refine ⟨hcell 0 _ (by omega) rfl, hcell 1 _ (by omega) rfl, hcell 2 _ (by omega) rfl, hcell 3 _ (by omega) rfl, hcell 4 _ (by omega) rfl, hcell 5 _ (by omega) rfl, ⟨A6, c6, hcell 6 _ (by omega) rfl, hrn.2, h6, by unfold maxLen at h6'; omega, fun hl => ?_⟩, hrn.1⟩
   rcases hint.2 with ⟨he, h0⟩ | ⟨g6, cap6, cur6, he, _⟩
   · omega
   · injection he with hA _ _
     subst hA
     refine ⟨g6, 0, rfl, (yo hint rfl).2, fun j x hx => ?_⟩
     have := hint.cells (g := g6) rfl j (.int .i64 x) (by simp [bp, hx])
     have e : (⟨g6, 0, none⟩ : Addr).add j = ⟨g6, j, none⟩ := by unfold Addr.add; split <;> simp_all
     rw [e] at this
     rw [Nat.zero_add]; exact this
end Go.Proofs.YtmeegfamopaljaaGreatDoor

namespace Go.SL
open Go Go.RowKit
section
variable {P : Program} {E : Env} {n : Nat} {D : List Deferred} {ts : List (Nat × Value)} {l : List HP}
section
variable {r : List HP} {e : TypeId} {K : Act → World → Prop}
theorem jx {size m : Nat} {v : Value} {xs : List Value} (s : Sel (row e size v m xs) l r)
 (h0 : v = .slice none 0 0 → m = 0 → xs = [] → At E n D ts r K)
 (h1 : ∀ g cap cur, v = .slice (some ⟨g, 0, none⟩) m cap → xs.length = m * size → m ≤ cap → cap ≤ maxLen → cur.size = cap * size → cur.toList.take (m * size) = xs → At E n D ts (blk g e cur :: r) K) : At E n D ts l K := fun a w f hw => by
 have h := hw.sel s
 obtain ⟨F1, F2, hF1, hF2, hd, ⟨⟨hlen, hown⟩, hF⟩, hl⟩ := h.star
 rcases hown with ⟨rfl, rfl⟩ | ⟨g, cap, cur, rfl, _, hg, hm, hc, hs, ht⟩
 · exact h0 Z Z (List.eq_nil_of_length_eq_zero (by simpa using hlen)) a w f ⟨hw.is, hl.mono hF2⟩
 · exact h1 g cap cur Z hlen hm hc hs ht a w f ⟨hw.is, F1, F2, hF1, hF2, hd, ⟨hF g Z, hg⟩, hl⟩
theorem aC {size m : Nat} {v : Value} {xs : List Value} (s : Sel (row e size v m xs) l r)
 (h : ∀ A c, v = .slice A m c → (A = none → m = 0 ∧ c = 0) → (∀ ad, A = some ad → ∃ g, ad = ⟨g, 0, none⟩) → m ≤ c → c ≤ maxLen → xs.length = m * size → At E n D ts l K) : At E n D ts l K := fun a w f hw => by
 obtain ⟨hlen, hown⟩ := hw.row s
 rcases hown with ⟨rfl, rfl⟩ | ⟨g, cap, cur, rfl, _, hg, hm, hc, hs, ht⟩
 · exact h none 0 rfl (fun _ => ⟨rfl, rfl⟩) (fun _ hx => by cases hx) (Nat.le_refl _) (Nat.zero_le _) hlen a w f hw
 · exact h _ cap rfl (fun hx => by cases hx) (fun ad hx => by injection hx with hx; exact ⟨g, hx.symm⟩) hm hc hlen a w f hw
theorem cC {size m g cap : Nat} {cur : Array Value} {xs : List Value} (hm : m ≤ cap) (hc : cap ≤ maxLen) (hs : cur.size = cap * size) (ht : cur.toList.take (m * size) = xs) :
 Ent (blk g e cur :: r) (row e size (.slice (some ⟨g, 0, none⟩) m cap) m xs :: r) := fun w _ ⟨F1, F2, h1, h2, hd, hp, hl⟩ =>
 ⟨F1, F2, h1, h2, hd, ⟨⟨by rw [← ht]; simp [hs]; rw [Nat.min_eq_left hm], .inr ⟨g, cap, cur, rfl, Nat.zero_le _, hp.2, hm, hc, hs, ht⟩⟩, fun k hk => by injection hk with hk; subst hk; exact hp.1⟩, hl⟩
theorem nq {size m g o c : Nat} {xs vs : List Value} (s : Sel (row e size (.slice (some ⟨g, 0, none⟩) m c) m xs) l r) (h : ∀ j u, vs[j]? = some u → xs[o + j]? = some u) : ∀ w, Holds E w l → gY g o vs w := fun w hw j v hj => by
 have := (hw.row s).cells (g := g) rfl (o + j) v (h j v hj)
 rwa [add_plain, Nat.zero_add] at this
theorem bJ {size m g o c : Nat} {xs : List Value} {u : Value} (s : Sel (row e size (.slice (some ⟨g, 0, none⟩) m c) m xs) l r) (h : xs[o]? = some u) : ∀ w, Holds E w l → bK ⟨g, o, none⟩ u w := fun w hw => by
 have := (hw.row s).cells (g := g) rfl o u h
 rwa [add_plain, Nat.zero_add] at this
end
end
theorem bq {E : Env} {n : Nat} {D : List Deferred} {ts : List (Nat × Value)} {m l : List HP} {K : Act → World → Prop} (h : At E n D ts (m ++ l) K) : At E n D ts (HP.all m :: l) K := fun a w f hw => h a w f (hw.ent Ent.unall)
end Go.SL
namespace Go.Proofs.YtmeegfamopaljaaGreatDoor
open Go Go.RowKit Go.SL
abbrev aF (v : Value) (l : List Int) : HP := row 3 1 v l.length (bp l)
section
variable {ns : List FK.Node} {r : List HP}
def bf (vs : List Value) (l : List FK.Node) : List HP := (vs.zip l).map fun p => aF p.1 p.2.after
def nodesOwn (v : Value) (l : List FK.Node) : HP := HP.ex fun vs : List Value => HP.all (HP.pure (vs.length = l.length) :: row 46 7 v l.length (aZ l vs) :: bf vs l)
theorem Star.mem {w : World} {p : HP} : ∀ {l : List HP} {F : Nat → Prop}, Star w l F → p ∈ l → p.sat w F
 | [], _, _, h => by cases h
 | q :: l, F, ⟨F1, F2, h1, h2, hd, hp, hl⟩, h => by
  rcases List.mem_cons.1 h with rfl | h
  · exact p.loc h1 (fun _ _ => rfl) hp
  · exact p.loc h2 (fun _ _ => rfl) (Star.mem hl h)
theorem nodesOwn.own {E : Env} {w : World} {v : Value} {l : List HP} (s : Sel (nodesOwn v ns) l r) (hw : Holds E w l) : ∃ vs, OwnNodes w 0 v ns vs := by
 obtain ⟨F1, F2, h1, h2, hd, ⟨vs, hp⟩, hl⟩ := (hw.sel s).star
 obtain ⟨_, G2, _, _, _, hlen, _, G4, _, _, _, hrow, hafts⟩ := hp
 refine ⟨vs, hlen, hrow.1, fun i nd u hi hu => ?_⟩
 have hz : (vs.zip ns)[i]? = some (u, nd) := by simp [List.getElem?_zip_eq_some, hi, hu]
 have hm : aF u nd.after ∈ bf vs ns := List.mem_map.2 ⟨(u, nd), List.mem_of_getElem? hz, rfl⟩
 exact (Star.mem hafts hm).1
theorem nodesOwn.at {E : Env} {A : Option Addr} {c : Nat} {l : List HP} (s : Sel (nodesOwn (.slice A ns.length c) ns) l r) (hr : ∀ n ∈ ns, (i64 n.CJ ∧ i64 n.close ∧ i64 n.beat ∧ i64 n.base ∧ i64 n.cap ∧ i64 n.CK) ∧ ∀ x ∈ n.after, i64 x) :
 ∀ w, Holds E w l → NodesAt w w.heap.size A c ns := fun w hw => by
 obtain ⟨vs, h⟩ := nodesOwn.own s hw
 exact h.nodesAt hr
theorem nodesOwn.ent {v : Value} {vs : List Value} (h : vs.length = ns.length) : Ent (row 46 7 v ns.length (aZ ns vs) :: (bf vs ns ++ r)) (nodesOwn v ns :: r) := by
 have e1 : Ent (row 46 7 v ns.length (aZ ns vs) :: (bf vs ns ++ r)) ((HP.pure (vs.length = ns.length) :: row 46 7 v ns.length (aZ ns vs) :: bf vs ns) ++ r) := Ent.pure h
 exact (e1.trans Ent.all).trans (Ent.ex (f := fun vs : List Value => HP.all (HP.pure (vs.length = ns.length) :: row 46 7 v ns.length (aZ ns vs) :: bf vs ns)) vs)
theorem gL {E : Env} {n : Nat} {D : List Deferred} {ts : List (Nat × Value)} {l : List HP} {K : Act → World → Prop} {v : Value} (s : Sel (nodesOwn v ns) l r)
 (h : ∀ vs : List Value, vs.length = ns.length → At E n D ts (row 46 7 v ns.length (aZ ns vs) :: (bf vs ns ++ r)) K) : At E n D ts l K := fun a w f hw => by
 obtain ⟨F1, F2, h1, h2, hd, ⟨vs, hp⟩, hl⟩ := (hw.sel s).star
 obtain ⟨F3, F4, h3, h4, hd', hlen, hp⟩ := hp
 refine h vs hlen a w f ⟨hw.is, ?_⟩
 exact gU (l := row 46 7 v ns.length (aZ ns vs) :: bf vs ns) (F1 := F1) (F2 := F2) h1 h2 hd (Star.mono h4 hp) hl
end
end Go.Proofs.YtmeegfamopaljaaGreatDoor

namespace FK
def tI (b : List UInt8) (p : Nat) : Nat → Nat → Nat → Except Nat (Nat × Nat)
 | 0, _, _ => .error p
 | k + 1, i, n => match b[p + i]? with
  | none => .error p
  | some c => if c.toNat < 128 then (if c.toNat = 0 ∧ 0 < i then .error p else .ok (n + c.toNat * 128 ^ i, p + i + 1)) else tI b p k (i + 1) (n + c.toNat % 128 * 128 ^ i)
theorem rd_go (b : List UInt8) (p : Nat) : rd b p = tI b p 3 0 0 := by
 unfold rd
 simp only [tI, Nat.add_zero]
 cases h0 : b[p]? with
 | none => rfl
 | some c =>
  simp only
  by_cases hc : c.toNat < 128
  · simp [hc]
  · simp only [hc, if_false, Nat.zero_add]
    cases h1 : b[p + 1]? with
    | none => rfl
    | some d =>
     simp only
     by_cases hd : d.toNat < 128
     · simp only [hd, if_true]
       by_cases hz : d.toNat = 0
       · simp [hz]
       · simp [hz]
     · simp only [hd, if_false]
       cases h2 : b[p + 2]? with
       | none => rfl
       | some e =>
        simp only
        by_cases he : e.toNat < 128
        · simp only [he, if_true]
          by_cases hz : e.toNat = 0
          · simp [hz]
          · simp [hz]
        · simp only [he, if_false]
theorem ri {b : List UInt8} {p n q : Nat} (h : rd b p = .ok (n, q)) : n < 2097152 ∧ p < q ∧ q ≤ b.length := by
 unfold rd at h
 split at h
 · cases h
 · rename_i c hc
   have hl0 := (List.getElem?_eq_some_iff.1 hc).1
   split at h
   · injection h with h; injection h with h1 h2; omega
   · split at h
     · cases h
     · rename_i d hd
       have hl1 := (List.getElem?_eq_some_iff.1 hd).1
       split at h
       · split at h
         · cases h
         · injection h with h; injection h with h1 h2; omega
       · split at h
         · cases h
         · rename_i e he
           have hl2 := (List.getElem?_eq_some_iff.1 he).1
           split at h
           · split at h
             · cases h
             · injection h with h; injection h with h1 h2; omega
           · cases h
def mq (l : List Int) (after : List Int) : Node := ⟨l.getD 0 0, l.getD 1 0, l.getD 2 0, l.getD 3 0, l.getD 4 0, l.getD 5 0, after⟩
def gz (b : List UInt8) : Nat → List Int → Rd Node
 | 0, l, p => andThen (dU b (eo b) p) fun after p => .ok (mq l after, p)
 | k + 1, l, p => andThen (eo b p) fun x p => gz b k (l ++ [x]) p
theorem sD (b : List UInt8) (p : Nat) : fD b p = gz b 6 [] p := rfl
end FK
namespace Go
theorem y5 (i n c : Nat) (hn : n < 128 ^ i) (hi : i ≤ 2) (hc : c < 128) : bits BinOp.or IntKind.i64 (n : Int) ((c * 128 ^ i : Nat) : Int) = ((n + c * 128 ^ i : Nat) : Int) := by
 have h7 : 128 ^ i = 2 ^ (7 * i) := by rw [Nat.pow_mul]
 have hle : c * 128 ^ i + n < 2 ^ 63 := by
  have : i = 0 ∨ i = 1 ∨ i = 2 := by omega
  rcases this with rfl | rfl | rfl <;> simp at hn ⊢ <;> omega
 have hw : ∀ n : Int, 0 ≤ n → n < 2 ^ 63 → IntKind.i64.wrap n = n := fun n h1 h2 => by
  have h3 : (2 : Int) ^ 63 = 9223372036854775808 := by decide
  exact IntWalk.i64_in n (by omega)
 have := (bits_nat .i64 63 (by decide) hw n (c * 128 ^ i) (by omega) (by omega)).2
 rw [this, h7]
 have h2 := Nat.two_pow_add_eq_or_of_lt (i := 7 * i) (b := n) (by rw [← h7]; exact hn) c
 rw [Nat.or_comm, Nat.mul_comm c, ← h2, Nat.add_comm]
theorem vY (c : Nat) (hc : c < 256) : bits BinOp.and IntKind.u8 (c : Int) 127 = ((c % 128 : Nat) : Int) := by
 have := u8_and_nat c 127 (by omega) (by omega)
 rw [show ((127 : Int)) = ((127 : Nat) : Int) from rfl, this]
 have key : ∀ x : Fin 256, x.val &&& 127 = x.val % 128 := by decide +kernel
 rw [key ⟨c, hc⟩]
end Go

namespace Go.Proofs.YtmeegfamopaljaaGreatDoor
open Go Go.RowKit Go.SL
variable {G : Env → Prop}
structure Reads (p : HP) (A : Option Addr) (bs : List UInt8) : Prop where
 form : bs ≠ [] → ∃ b o, A = some ⟨b, o, none⟩
 cell : ∀ w F, p.sat w F → ∀ b o, A = some ⟨b, o, none⟩ → ∀ (j : Nat) (x : UInt8), bs[j]? = some x → w.cell? ⟨b, o + j, none⟩ = some (.int .u8 x.toNat)
theorem Reads.at {E : Env} {p : HP} {A : Option Addr} {bs : List UInt8} {l r : List HP} {b o j : Nat} {x : UInt8} (h : Reads p A bs) (s : Sel p l r) (hA : A = some ⟨b, o, none⟩) (hx : bs[j]? = some x) : ∀ w, Holds E w l → bK ⟨b, o + j, none⟩ (.int .u8 x.toNat) w := fun w hw => by
 obtain ⟨F1, _, _, _, _, hp, _⟩ := (hw.sel s).star
 exact h.cell w F1 hp b o hA j x hx
theorem shl7 (c i : Nat) (hc : c < 128) (hi : i ≤ 2) : IntKind.i64.wrap ((c : Int) * 2 ^ min (7 * (i : Int)).toNat IntKind.i64.bits) = ((c * 128 ^ i : Nat) : Int) := by
 have : i = 0 ∨ i = 1 ∨ i = 2 := by omega
 rcases this with rfl | rfl | rfl
 · exact dd (x := (c : Int) * 1) (by omega)
 · exact dd (x := (c : Int) * 128) (by omega)
 · exact dd (x := (c : Int) * 16384) (by omega)
set_option maxRecDepth 10000 in
theorem e9 {p : HP} {A : Option Addr} {c : Nat} {bs : List UInt8} (hp : Reads p A bs) (hl : bs.length ≤ 1099511627776) (r q : Nat) (hq : q ≤ bs.length) :
 DoesX Tryz.prog G 151 [.pointer (some ⟨r, 0, none⟩)].toArray [blk r 240 #[.slice A bs.length c, .int .i64 q], p]
  (fun u m => ∃ n q' : Nat, FK.rd bs q = .ok (n, q') ∧ u = .int .i64 n ∧ m = [blk r 240 #[.slice A bs.length c, .int .i64 q'], p])
  (fun x m => ∃ e q' : Nat, FK.rd bs q = .error e ∧ x = [{ v := .iface 237 (.int .i64 e), recovered := false }] ∧ m = [blk r 240 #[.slice A bs.length c, .int .i64 q'], p]) := by
 refine DoesX.body Tryz.func151 Z Z fun E fr hE => ?_
 refine aJ (At.seq (At.region (L.as Z Z (L.nil (At.then (At.seq (At.region (L.mv Z Z (aR Z Z (aI 1 Z Z Z (bd Z Z Z Z (L.as Z Z (L.as Z Z (L.nil (At.then ?_)))))))))))))))
 refine At.seq (At.cut (X := Nat) (fun _ => [(3, .int .i64 q)]) (fun q' => [blk r 240 #[.slice A bs.length c, .int .i64 q'], p] ++ fr) (fun _ => FK.rd bs q = .error q) ?_ ?_)
 ·
  refine At.seq (At.region (L.mv Z Z (L.nil (At.then (At.block ?_)))))
  refine bk (X := Nat × Nat) (fun x => [(11, .int .i64 x.1), (4, .int .i64 x.2), (3, .int .i64 q), (0, .pointer (some ⟨r, 0, none⟩))]) (fun x => blk r 240 #[.slice A bs.length c, .int .i64 (q + x.1 : Nat)] :: p :: fr) (fun x => x.1 ≤ 3 ∧ x.2 < 128 ^ x.1 ∧ FK.tI bs q (3 - x.1) x.1 x.2 = FK.rd bs q ∧ q + x.1 ≤ bs.length) (fun x => 3 - x.1) (0, 0) ⟨by omega, by simp, (FK.rd_go bs q).symm, hq⟩ ⟨rfl, rfl, rfl, rfl, trivial⟩ (Ent.refl _) ?_
  rintro ⟨i, n⟩ ⟨hi, hn, hgo, hqi⟩
  simp only at hi hn hgo hqi ⊢
  refine At.seq (At.region (L.pure Z (bl Z Z Z) (L.nil (At.then (At.seq ?_)))))
  refine aE Z (fun c12 => ?_) (fun c12 => ?_)
  ·
   have hi2 : i ≤ 2 := by omega
   refine At.skip (At.then (At.seq (At.block (At.seq (At.region (L.mv Z Z (L.as Z Z (L.nil (At.then (At.seq (At.seq (Dr.start Z (dP 0 Z Z (ae Z) (dP 1 Z Z (am Z) (dP 2 Z Z (ab (off := 1) Z Z) (dL 3 Z Z (aa Z Z) (ag Z) (dP 4 Z Z (ae Z) (dP 5 Z Z (am Z) (dP 6 Z Z (ab (off := 0) Z Z) ?_)))))))))))))))))))
   refine dL 7 Z Z (aa Z Z) (ag Z) (dP 8 Z Z (aM Z Z) (dP 9 Z Z (aH Z Z Z) (dE (At.then ?_))))
   refine aE Z (fun c23 => ?_) (fun c23 => ?_)
   ·
    refine At.exit (az (dM Z (az (ay (ar ?_)))))
    exact bb (q + i) (by rw [← hgo, show 3 - i = (2 - i) + 1 by omega, FK.tI, List.getElem?_eq_none (by omega)]) ⟨rfl, trivial⟩ (Ent.refl _)
   ·
    have hlt : q + i < bs.length := by omega
    obtain ⟨b, o, hA⟩ := hp.form (by intro h; simp [h] at hlt)
    obtain ⟨x, hx⟩ : ∃ x, bs[q + i]? = some x := ⟨bs[q + i], by simp [hlt]⟩
    have hxl := x.toNat_lt
    have hpow : 128 ^ i ≤ 16384 := Nat.pow_le_pow_right (by omega) (by omega : i ≤ 2)
    have hstep := hgo
    rw [show 3 - i = (2 - i) + 1 by omega, FK.tI, hx] at hstep
    simp only at hstep
    refine At.skip (At.then (At.seq (Dr.start Z (dP 0 Z Z (ae Z) (dP 1 Z Z (am Z) (dP 2 Z Z (ab (off := 0) Z Z) (dL 3 Z Z (aa Z Z) (ag Z) (dP 4 Z Z (ae Z) (dP 5 Z Z (am Z) (dP 6 Z Z (ab (off := 1) Z Z) (dL 7 Z Z (aa Z Z) (ag Z) (dP 8 Z Z (aT (z := 1) Z Z (by rw [hA]; rfl) Z hlt) (dL 9 Z Z (aa Z Z) (hp.at (.tail (.head)) hA (by simpa using hx)) (dP 10 Z Z (ax Z) (dE (At.then (At.seq (At.region (L.mv Z Z ?_)))))))))))))))))))
    refine aR Z Z (aI 1 Z Z Z (bd Z Z Z Z (L.pure Z (aS Z Z (dd (by omega))) (aR Z Z (aI 1 Z Z Z ?_)))))
    refine L.st Z Z Z Z (by first | decide | simp | (simp; omega)) ?_
    refine L.nil (At.then (At.seq (At.region (L.mv Z Z (L.mv Z Z (L.pure Z (tN Z Z (vY _ hxl)) (L.pure Z (bz Z Z Z (dd (by omega))) (L.mv Z Z (L.pure Z (lU Z Z (dd (by omega))) (L.pure Z (jI Z Z (by omega) (shl7 (x.toNat % 128) i (by omega) hi2)) (L.pure Z (rq Z Z (y5 i n (x.toNat % 128) hn hi2 (by omega))) (L.as Z Z (L.nil (At.then (At.seq (At.region (L.mv Z Z (L.pure Z (bl Z Z Z) (L.nil ?_)))))))))))))))))))
    refine At.then ?_
    refine aE Z (fun c50 => ?_) (fun c50 => ?_)
    ·
     rw [if_pos (by omega)] at hstep
     have hm : x.toNat % 128 = x.toNat := Nat.mod_eq_of_lt (by omega)
     refine At.seq (At.seq (At.region (L.mv Z Z (L.bool Z (aH Z Z Z) (fun _ _ => trivial) fun c52 e52 => (L.mv Z Z ?_)))))
     refine nu c52 (by rfl) ?_
     refine L.g Z Z (fun _ => rfl) (ae Z) (fun _ _ => trivial) ?_
     refine nu c52 (by rfl) ?_
     refine L.g Z Z (fun _ => rfl) (cG Z Z Z) (fun _ _ => trivial) ?_
     refine L.bool Z (uR Z Z Z) (fun _ _ => trivial) fun c56 e56 => (L.nil (At.then ?_))
     refine fG Z (fun c56 => ?_) (fun c56 => ?_)
     ·
      simp only [e56, e52, Bool.and_eq_true, decide_eq_true_eq] at c56
      refine At.exit (az (dM Z (az (ay (ar ?_)))))
      exact bb (q + i + 1) (by rw [← hstep, if_pos (by omega)]) ⟨rfl, trivial⟩ (Ent.refl _)
     ·
      rw [if_neg (by intro h; rw [e56, e52] at c56; simp at c56; omega)] at hstep
      refine At.skip (At.then (At.seq (At.region (L.mv Z Z (L.as Z Z (L.nil (At.then (At.ret (aB (aG (cp (aB (ve ?_)))))))))))))
      exact lD (.inl Z) (aA _ Z Z ⟨n + x.toNat % 128 * 128 ^ i, q + i + 1, by rw [← hstep, hm], rfl, rfl⟩ (Ent.refl _))
    ·
     rw [if_neg (by omega)] at hstep
     refine At.skip (an (At.then (At.region (L.pure Z (aS Z Z (dd (by omega))) (L.mv Z Z (L.nil ?_))))))
     exact At.round (i + 1, n + x.toNat % 128 * 128 ^ i) ⟨by simp only; omega, by rw [Nat.pow_succ]; have := Nat.mul_le_mul_right (128 ^ i) (show x.toNat % 128 ≤ 127 by omega); simp only; omega, by show FK.tI bs q (3 - (i + 1)) (i + 1) _ = _; rw [show 3 - (i + 1) = 2 - i by omega]; exact hstep, by simp only; omega⟩ (by simp only; omega) ⟨rfl, rfl, rfl, rfl, trivial⟩ (Ent.refl _)
  ·
   obtain rfl : i = 3 := by omega
   exact At.exit (az (ay (ar (bb (q + 3) hgo.symm ⟨rfl, trivial⟩ (Ent.refl _)))))
 intro q' hbad
 exact At.region (L.mv Z Z (L.pure Z (cO Z Z Z) (L.op Z (vC Z (fX _ ⟨q, q', hbad, rfl, rfl⟩ (Ent.refl _))))))
open Go Go.RowKit Go.SL
variable {G : Env → Prop}
section
variable {nd : FK.Node} {ns : List FK.Node}
def qc (k : Int) : List UInt8 := FK.bA k.toNat
def jD (d : Nat) (ns : List FK.Node) (k : Nat) : List UInt8 := FK.bA d ++ FK.bA ns.length ++ (ns.take k).flatMap FK.dq
theorem uW {d : Nat} {k : Nat} (h : ns[k]? = some nd) : jD d ns (k + 1) = jD d ns k ++ FK.dq nd := by
 obtain ⟨hk, hn⟩ := List.getElem?_eq_some_iff.1 h
 unfold jD
 rw [List.take_succ_eq_append_getElem hk, hn]
 simp
theorem xC {d : Nat} (hd : d ≤ 1048576) (hl : ns.length ≤ 12) (ho : ∀ n ∈ ns, FK.cM n ∧ FK.EdgesOk ns.length (-1) n.after) (k : Nat) : (jD d ns k).length ≤ 700 := by
 have h := flat_len FK.dq 57 (ns.take k) fun n hn => by
  have := ho n (List.mem_of_mem_take hn)
  exact tp hl this.1 this.2
 have h1 := FK.ct (n := d) (by omega)
 have h2 := FK.ct (n := ns.length) (by omega)
 have h3 : (ns.take k).length ≤ 12 := by simp; omega
 have h4 : 57 * (ns.take k).length ≤ 57 * 12 := Nat.mul_le_mul_left _ h3
 unfold jD
 simp only [List.length_append]
 omega
theorem vw (b : Nat) : ∀ j, j < 6 → (eQ b 0)[j]? = some (.pointer (some ⟨b, j, none⟩))
 | 0, _ => rfl | 1, _ => rfl | 2, _ => rfl | 3, _ => rfl | 4, _ => rfl | 5, _ => rfl
 | j + 6, h => by omega
theorem pN {α : Type} (f : α → List UInt8) (l : List α) (j : Nat) : ((l.take j).flatMap f).length ≤ (l.flatMap f).length := by
 have : l.flatMap f = (l.take j).flatMap f ++ (l.drop j).flatMap f := by rw [← List.flatMap_append, List.take_append_drop]
 rw [this]; simp
theorem gO {α : Type} {l : List α} {j : Nat} {x : α} (h : l[j]? = some x) : l.take (j + 1) = l.take j ++ [x] := by
 obtain ⟨h1, h2⟩ := List.getElem?_eq_some_iff.1 h
 rw [List.take_succ_eq_append_getElem h1, h2]
def db (nd : FK.Node) (A6 : Option Addr) (c6 : Nat) : List Value := [.int .i64 nd.CJ, .int .i64 nd.close, .int .i64 nd.beat, .int .i64 nd.base, .int .i64 nd.cap, .int .i64 nd.CK, .slice A6 nd.after.length c6]
theorem AP (nd : FK.Node) (A6 : Option Addr) (c6 : Nat) : ∀ j, j < 6 → ∃ x, (kX nd)[j]? = some x ∧ (db nd A6 c6)[j]? = some (.int .i64 x)
 | 0, _ => ⟨_, rfl, rfl⟩ | 1, _ => ⟨_, rfl, rfl⟩ | 2, _ => ⟨_, rfl, rfl⟩ | 3, _ => ⟨_, rfl, rfl⟩ | 4, _ => ⟨_, rfl, rfl⟩ | 5, _ => ⟨_, rfl, rfl⟩
 | j + 6, h => by omega
theorem ol (z0 z1 z2 z3 z4 z5 z6 : Value) (nd : FK.Node) (A6 : Option Addr) (c6 : Nat) : fg #[z0, z1, z2, z3, z4, z5, z6] 0 (db nd A6 c6) = (db nd A6 c6).toArray := by simp [fg, db]
theorem NodeAt.row {w : World} {B b off : Nat} (h : NodeAt w B b off nd) : ∃ A6 c6, (∀ j v, (db nd A6 c6)[j]? = some v → w.cell? ⟨b, off + j, none⟩ = some v) ∧ IntsAt w B A6 c6 nd.after := by
 obtain ⟨h0, h1, h2, h3, h4, h5, ⟨A, c, h6, hi⟩, _⟩ := h
 refine ⟨A, c, fun j v hj => ?_, hi⟩
 match j, hj with
 | 0, hj => injection hj with hj; subst hj; exact h0
 | 1, hj => injection hj with hj; subst hj; exact h1
 | 2, hj => injection hj with hj; subst hj; exact h2
 | 3, hj => injection hj with hj; subst hj; exact h3
 | 4, hj => injection hj with hj; subst hj; exact h4
 | 5, hj => injection hj with hj; subst hj; exact h5
 | 6, hj => injection hj with hj; subst hj; exact h6
 | j + 7, hj => simp [db] at hj
theorem AO (h : FK.cM nd) : ∀ x ∈ kX nd, 0 ≤ x ∧ x ≤ 1048576 := by
 obtain ⟨a1, a2, ⟨b1, b2⟩, ⟨c1, c2⟩, ⟨d1, d2⟩, ⟨e1, e2⟩, f1, f2⟩ := h
 intro x hx
 simp only [kX, List.mem_cons, List.not_mem_nil, or_false] at hx
 rcases hx with rfl | rfl | rfl | rfl | rfl | rfl <;> omega
set_option maxRecDepth 10000 in
theorem tC (d : Nat) (A : Option Addr) (c : Nat) (ns : List FK.Node) (hd : d ≤ 1048576) (hl : ns.length ≤ 12) (ho : ∀ n ∈ ns, FK.cM n ∧ FK.EdgesOk ns.length (-1) n.after) :
 Gives Tryz.prog G 90 [.agg #[.int .i64 d, .slice A ns.length c]].toArray (fun w => NodesAt w w.heap.size A c ns) fun v m => m = [bO v (FK.bN ⟨d, ns⟩)] := by
 have hlen := xC hd hl ho
 refine Gives.body Tryz.func90 Z Z fun E w0 hE h0 hN => ?_
 refine At.seq (At.region (L.op Z (cb Z Z fun b1 => (L.as Z Z (L.nil (At.then (At.seq (Dr.start Z (dP 0 Z Z (ab (off := 0) Z Z) (dL 1 Z Z (aa Z Z) (ag Z) (dP 2 Z Z (bz Z Z Z (wu64 (by omega))) (dP 4 Z Z (ab (off := 1) Z Z) (dL 5 Z Z (aa Z Z) (ag Z) (dP 6 Z Z (aM Z Z) (dP 7 Z Z (bz Z Z Z (wu64 (by omega))) ?_)))))))))))))))
 refine dR 3 Z Z (ah Z Z Z hE (eE _ [] d (by omega) (by simp)) Ent.row0 ?_)
 rintro v m rfl
 refine ai ?_
 obtain ⟨v13, hv13⟩ : ∃ v13, v13 = v := ⟨_, rfl⟩
 refine dK [true, true] (Kept.cons (ag Z) (Kept.cons (ag Z) Kept.nil)) ?_
 refine dR 8 Z Z (ah Z Z Z hE (eE _ _ ns.length (by omega) (by have := FK.ct (n := d) (by omega); simp; omega)) (Ent.refl _) ?_)
 rintro v m rfl
 refine ai (dK [true, true] (Kept.cons (ag Z) (Kept.cons (ag Z) Kept.nil)) (dP 9 Z Z (ax Z) (dE (At.then (At.seq (At.seq (At.region (aI 1 Z Z Z (bd Z Z Z Z (L.pure Z (aM Z Z) (L.mv Z Z (L.nil (At.then (At.block ?_))))))))))))))
 refine bk (X := Nat × Value) (fun x => [(22, .int .i64 x.1), (3, x.2), (20, .slice A ns.length c), (21, .int .i64 ns.length)]) (fun x => [bO x.2 (jD d ns x.1), old E w0]) (fun x => x.1 ≤ ns.length) (fun x => ns.length - x.1) (0, _) (by omega) ⟨rfl, rfl, rfl, rfl, trivial⟩ (by simp only [jD, List.take_zero, List.flatMap_nil, List.append_nil, List.nil_append]; exact Ent.cons Ent.drop) ?_
 rintro ⟨k, v3⟩ hk
 simp only at hk ⊢
 refine At.seq (At.region (L.pure Z (bl Z Z Z) (L.nil (At.then (At.seq ?_)))))
 refine aE Z (fun c23 => ?_) (fun c23 => ?_)
 ·
  have hlt : k < ns.length := by omega
  obtain ⟨b, off, rfl, hbB, hcell⟩ := hN.cells (by omega)
  obtain ⟨nd, cN⟩ : ∃ nd, ns[k]? = some nd := ⟨ns[k], by simp [hlt]⟩
  obtain ⟨A6, c6, hrow, hints⟩ := NodeAt.row (hcell k nd cN)
  obtain ⟨hok, hed⟩ := ho nd (List.mem_of_getElem? cN)
  have hnx := uW (d := d) cN
  have hl1 : (jD d ns k).length + ((kX nd).flatMap qc).length + (FK.bA nd.after.length).length + (nd.after.flatMap qc).length ≤ 700 := by
   have := hlen (k + 1)
   rw [hnx, lH] at this
   simp only [List.length_append] at this
   have e : (fun k : Int => FK.bA k.toNat) = qc := rfl
   rw [e] at this
   omega
  have hal : nd.after.length ≤ 12 := by
   rcases hed.length_le (by omega) with h | h
   · omega
   · rw [h]; simp
  refine At.skip (At.then (At.seq (At.block (At.seq (At.region (L.pure Z (aT (z := 7) Z Z Z Z (by omega)) (L.val Z (ao (vs := db nd A6 c6) Z Z Z Z) (tL (.tail (.head)) h0 hrow) (L.op Z (aN (z := .agg #[.int .i64 0, .int .i64 0, .int .i64 0, .int .i64 0, .int .i64 0, .int .i64 0, .slice none 0 0]) Z Z fun b5 => ?_)))))))))
  refine L.op Z (aK Z (m := 7) (vs := db nd A6 c6) Z Z Z Z (by simp [db, Value.oneCell']) (by simp [db, Value.cells]) ?_)
  simp only [Value.cells, ol]
  refine L.nil (At.then (At.seq (At.seq (At.region ?_))))
  refine L.op Z (ah Z Z Z hE (mO b5) (Ent.refl _) ?_)
  rintro v m ⟨rfl, rfl⟩
  refine aL (L.mv Z Z (L.nil (At.then (At.block ?_))))
  refine bk (X := Nat × Value) (fun x => [(27, .int .i64 x.1), (3, x.2), (22, .int .i64 k), (20, .slice (some ⟨b, off, none⟩) ns.length c), (21, .int .i64 ns.length), (26, .agg (eQ b5 0)), (5, .pointer (some ⟨b5, 0, none⟩))]) (fun x => [bO x.2 (jD d ns k ++ ((kX nd).take x.1).flatMap qc), blk b5 _ (db nd A6 c6).toArray, old E w0]) (fun x => x.1 ≤ 6) (fun x => 6 - x.1) (0, _) (by omega) ⟨rfl, rfl, rfl, rfl, rfl, rfl, rfl, trivial⟩ (by simp only [List.take_zero, List.flatMap_nil, List.append_nil]; exact Ent.perm (List.Perm.swap _ _ _)) ?_
  rintro ⟨j, v3⟩ hj
  simp only at hj ⊢
  refine At.seq (At.region (L.pure Z (bl Z Z Z) (L.nil (At.then (At.seq ?_)))))
  refine aE Z (fun c28 => ?_) (fun c28 => ?_)
  ·
   have hj6 : j < 6 := by omega
   obtain ⟨x, hx1, hx2⟩ := AP nd A6 c6 j hj6
   have hxr := AO hok x (List.mem_of_getElem? hx1)
   obtain ⟨m, rfl⟩ : ∃ m : Nat, x = m := ⟨x.toNat, by omega⟩
   have hxt := gO hx1
   have hft := pN qc (kX nd) j
   refine At.skip (At.then (At.seq (At.block (At.seq (At.region (L.pure Z (nR Z Z Z Z Z hj6 (vw b5 j hj6)) (L.as Z Z (L.nil (At.then (At.region (L.mv Z Z (L.mv Z Z (aR Z Z (bd Z Z Z (by simpa using hx2) (L.pure Z (bz Z Z Z (wu64 (by omega))) ?_)))))))))))))))
   refine L.op Z (ah Z Z Z hE (eE _ _ m (by omega) (by simp only [List.length_append]; omega)) (Ent.refl _) ?_)
   rintro v m rfl
   refine ai (L.as Z Z (L.nil (an (At.then (At.region (L.pure Z (aS Z Z (dd (by omega))) (L.mv Z Z (L.nil ?_))))))))
   exact At.round (j + 1, _) (by simp; omega) (by simp; omega) ⟨rfl, rfl, rfl, rfl, rfl, rfl, rfl, trivial⟩ (by rw [hxt]; simp only [List.flatMap_append, List.flatMap_cons, List.flatMap_nil, List.append_nil, List.append_assoc]; exact Ent.refl _)
  ·
   obtain rfl : j = 6 := by omega
   refine At.exit (az (ay (ar (At.then (At.seq (At.region (L.mv Z Z (aI 6 Z Z Z (bd Z Z Z Z (L.pure Z (aM Z Z) (L.pure Z (bz Z Z Z (wu64 (by omega))) ?_)))))))))))
   refine L.op Z (ah Z Z Z hE (eE _ _ nd.after.length (by omega) (by have e : (kX nd).take 6 = kX nd := rfl; rw [e]; simp only [List.length_append]; omega)) (Ent.refl _) ?_)
   rintro v m rfl
   refine ai (L.as Z Z (L.nil (At.then (At.seq (At.region (aI 6 Z Z Z (bd Z Z Z Z (L.pure Z (aM Z Z) (L.mv Z Z (L.nil (At.then (At.block ?_))))))))))))
   refine bk (X := Nat × Value) (fun x => [(46, .int .i64 x.1), (3, x.2), (22, .int .i64 k), (20, .slice (some ⟨b, off, none⟩) ns.length c), (21, .int .i64 ns.length), (44, .slice A6 nd.after.length c6), (45, .int .i64 nd.after.length)]) (fun x => [bO x.2 (jD d ns k ++ (kX nd).flatMap qc ++ FK.bA nd.after.length ++ (nd.after.take x.1).flatMap qc), old E w0]) (fun x => x.1 ≤ nd.after.length) (fun x => nd.after.length - x.1) (0, _) (by omega) ⟨rfl, rfl, rfl, rfl, rfl, rfl, rfl, trivial⟩ (by simp only [List.take_zero, List.flatMap_nil, List.append_nil]; exact Ent.cons Ent.drop) ?_
   rintro ⟨j, v3⟩ hj
   simp only at hj ⊢
   refine At.seq (At.region (L.pure Z (bl Z Z Z) (L.nil (At.then (At.seq ?_)))))
   refine aE Z (fun c47 => ?_) (fun c47 => ?_)
   ·
    have hlt2 : j < nd.after.length := by omega
    obtain ⟨b6, off6, rfl, hb6, hc6⟩ := hints.cells (by omega)
    obtain ⟨y, hy⟩ : ∃ y, nd.after[j]? = some y := ⟨nd.after[j], by simp [hlt2]⟩
    have hyr := hed.bounds y (List.mem_of_getElem? hy)
    obtain ⟨m, rfl⟩ : ∃ m : Nat, y = m := ⟨y.toNat, by omega⟩
    have hxt := gO hy
    have hft := pN qc nd.after j
    refine At.skip (At.then (At.seq (At.block (At.seq (At.region (L.pure Z (aT (z := 1) Z Z Z Z hlt2) (L.val Z (aa Z Z) (vV (.tail (.head)) h0 (by simpa using hc6 j _ hy)) (L.as Z Z (L.nil (At.then (At.region (L.mv Z Z (L.mv Z Z (L.pure Z (bz Z Z Z (wu64 (by omega))) ?_))))))))))))))
    refine L.op Z (ah Z Z Z hE (eE _ _ m (by omega) (by simp only [List.length_append]; omega)) (Ent.refl _) ?_)
    rintro v m rfl
    refine ai (L.as Z Z (L.nil (an (At.then (At.region (L.pure Z (aS Z Z (dd (by omega))) (L.mv Z Z (L.nil ?_))))))))
    exact At.round (j + 1, _) (by simp; omega) (by simp; omega) ⟨rfl, rfl, rfl, rfl, rfl, rfl, rfl, trivial⟩ (by rw [hxt]; simp only [List.flatMap_append, List.flatMap_cons, List.flatMap_nil, List.append_nil, List.append_assoc]; exact Ent.refl _)
   ·
    obtain rfl : j = nd.after.length := by omega
    refine At.exit (az (ay (ar (an (At.then (At.region (L.pure Z (aS Z Z (dd (by omega))) (L.mv Z Z (L.nil ?_)))))))))
    exact At.round (k + 1, _) (by simp; omega) (by simp; omega) ⟨rfl, rfl, rfl, rfl, trivial⟩ (by rw [hnx, lH]; have e : (fun k : Int => FK.bA k.toNat) = qc := rfl; rw [e, List.take_length]; simp only [List.append_assoc]; exact Ent.refl _)
 ·
  obtain rfl : k = ns.length := by omega
  refine At.exit (az (ay (ar (At.then (At.seq (At.region (L.mv Z Z (L.as Z Z (L.nil (At.then (At.ret ?_)))))))))))
  exact aA [bO v3 (FK.bN ⟨d, ns⟩)] rfl Z Z (by have e : jD d ns ns.length = FK.bN ⟨d, ns⟩ := (by simp [jD, FK.bN]); rw [e]; exact Ent.refl _)
end
end Go.Proofs.YtmeegfamopaljaaGreatDoor

set_option maxRecDepth 10000
namespace Go.Proofs.YtmeegfamopaljaaGreatDoor
open Go Go.RowKit Go.SL
variable {G : Env → Prop}
abbrev vk (e : Nat) : List PanicEntry := [{ v := .iface 237 (.int .i64 e), recovered := false }]
section
variable {b bs : List UInt8} {e n q q' : Nat} {l xs : List Int} {α : Type} {A : Option Addr}
theorem mH (v : Value) (xs : List Int) (x : Int) : aF v (xs ++ [x]) = row 3 1 v (xs.length + 1) (bp xs ++ [.int .i64 x]) := by simp [aF, bp]
theorem pD (r : FK.Rd α) (l : List α) (q : Nat) : FK.kY r 0 l q = .ok (l, q) := rfl
theorem pE {r : FK.Rd α} {l : List α} {x : α} (h : r q = .ok (x, q')) : FK.kY r (n + 1) l q = FK.kY r n (l ++ [x]) q' := by simp only [FK.kY, h]
theorem rI {r : FK.Rd α} {l : List α} (h : r q = .error e) : FK.kY r (n + 1) l q = .error e := by simp only [FK.kY, h]
theorem py {r : FK.Rd α} (h : FK.rd b q = .ok (n, q')) : FK.dU b r q = FK.kY r n [] q' := by simp only [FK.dU, h]
theorem ou {r : FK.Rd α} (h : FK.rd b q = .error e) : FK.dU b r q = .error e := by simp only [FK.dU, h]
theorem lq (h : FK.rd b q = .ok (n, q')) : FK.eo b q = .ok ((n : Int), q') := by simp only [FK.eo, h]
theorem l3 (h : FK.rd b q = .error e) : FK.eo b q = .error e := by simp only [FK.eo, h]
theorem zp {p : HP} {c : Nat} (hp : Reads p A bs) (hl : bs.length ≤ 1099511627776) (r q : Nat) (hq : q ≤ bs.length) :
 DoesX Tryz.prog G 199 [.pointer (some ⟨r, 0, none⟩), .func (.func 151) #[.pointer (some ⟨r, 0, none⟩)] #[]].toArray [blk r 240 #[.slice A bs.length c, .int .i64 q], p]
  (fun u m => ∃ (xs : List Int) (q' : Nat), FK.dU bs (FK.eo bs) q = .ok (xs, q') ∧ q' ≤ bs.length ∧ (∀ x ∈ xs, 0 ≤ x ∧ x < 2097152) ∧ m = [aF u xs, blk r 240 #[.slice A bs.length c, .int .i64 q'], p])
  (fun x m => ∃ e q' : Nat, FK.dU bs (FK.eo bs) q = .error e ∧ x = vk e ∧ m = [blk r 240 #[.slice A bs.length c, .int .i64 q'], p]) := by
 refine DoesX.body Tryz.func199 Z Z fun E fr hE => ?_
 refine aJ (At.seq (At.region (L.as Z Z (L.nil (At.then (At.seq (At.region (L.as Z Z (L.nil (At.then (At.seq (At.seq (At.region (L.mv Z Z ?_))))))))))))))
 refine L.op Z (j5 Z Z Z hE (e9 hp hl r q hq) (Ent.refl _) ?_ ?_)
 ·
  rintro c m ⟨e, q', he, rfl, rfl⟩
  exact aJ (cf (cf (fX _ ⟨e, q', ou he, rfl, rfl⟩ (Ent.refl _))))
 rintro v m ⟨n, q1, hn, rfl, rfl⟩
 refine aJ ?_
 obtain ⟨hn1, hn2, hn3⟩ := FK.ri hn
 refine L.as Z Z (L.nil (At.then (At.block ?_)))
 refine bk (X := Nat × List Int × Value × Nat) (fun x => [(6, .int .i64 x.1), (5, x.2.2.1), (0, .pointer (some ⟨r, 0, none⟩)), (1, .func (.func 151) #[.pointer (some ⟨r, 0, none⟩)] #[])]) (fun x => aF x.2.2.1 x.2.1 :: blk r 240 #[.slice A bs.length c, .int .i64 x.2.2.2] :: p :: fr) (fun x => FK.kY (FK.eo bs) x.1 x.2.1 x.2.2.2 = FK.dU bs (FK.eo bs) q ∧ x.2.2.2 ≤ bs.length ∧ (∀ y ∈ x.2.1, 0 ≤ y ∧ y < 2097152) ∧ x.2.1.length + x.1 ≤ 2097152) (fun x => x.1) (n, [], .slice none 0 0, q1) ⟨(py hn).symm, hn3, by simp, by simp; omega⟩ ⟨rfl, rfl, rfl, rfl, trivial⟩ Ent.row0 ?_
 rintro ⟨k, xs, v5, q2⟩ ⟨hm, hq2, hb, hlen⟩
 simp only at hm hq2 hb hlen ⊢
 refine At.seq (At.seq (At.region (L.mv Z Z (L.pure Z (cG Z Z Z) (L.nil (At.then ?_))))))
 refine aE Z (fun c10 => ?_) (fun c10 => ?_)
 ·
  obtain ⟨k, rfl⟩ : ∃ j, k = j + 1 := ⟨k - 1, by omega⟩
  refine At.skip (At.then (At.seq (At.block (At.region (L.mv Z Z (L.mv Z Z ?_))))))
  refine L.op Z (rG Z Z Z Z hE (e9 (c := c) hp hl r q2 hq2) (aP (.tail (.head)) (.tail (.head))) ?_ ?_)
  ·
   rintro c m ⟨e, q', he, rfl, rfl⟩
   refine aJ (dx (cf (iK (dx (cf ?_)))))
   exact fX _ ⟨e, q', by rw [← hm, rI (l3 he)], rfl, rfl⟩ (Ent.cons (Ent.cons Ent.drop))
  rintro v m ⟨y, q3, hy, rfl, rfl⟩
  refine aJ ?_
  obtain ⟨hy1, hy2, hy3⟩ := FK.ri hy
  refine L.op Z (da (z := .int .i64 0) Z Z Z Z Z Z fun b16 => ?_)
  refine L.op rfl (cm rfl rfl fF rfl (by omega) rfl rfl (.tail (.tail (.tail (.head)))) (news := [.int .i64 y]) rfl (fun h => by cases h) (fN (fun j u h => by simpa using h)) (by simp [Value.oneCell']) (by unfold maxLen; omega) (by omega) fun v' hv' => ?_)
  refine L.as Z Z (L.nil (an (At.then (At.region (L.mv Z Z (L.pure Z (eu (r := (k : Int)) Z Z (by rw [dd (by omega)]; omega)) (L.as Z Z (L.nil ?_))))))))
  exact At.round (k, xs ++ [(y : Int)], v', q3) ⟨by rw [← hm, pE (lq hy)], hy3, fun z hz => (by rcases List.mem_append.1 hz with h | h; exact hb z h; simp at h; omega), by simp only [List.length_append, List.length_cons, List.length_nil]; omega⟩ (by simp only; omega) ⟨rfl, rfl, rfl, rfl, trivial⟩ (by rw [mH]; exact Ent.cons Ent.drop)
 ·
  obtain rfl : k = 0 := by omega
  refine At.exit (az (ay (ar (At.then (At.seq (At.region (L.mv Z Z (L.as Z Z (L.nil (At.then (At.ret ?_)))))))))))
  exact lD (.inl Z) (aA [_, _, _] rfl Z ⟨xs, q2, by rw [← hm, pD], hq2, hb, rfl⟩ (Ent.refl _))
def j7 (xs : List Int) : Array Value := #[.int .i64 (xs.getD 0 0), .int .i64 (xs.getD 1 0), .int .i64 (xs.getD 2 0), .int .i64 (xs.getD 3 0), .int .i64 (xs.getD 4 0), .int .i64 (xs.getD 5 0), .slice none 0 0]
theorem sJ : ∀ (xs : List Int) (x : Int), xs.length < 6 → (j7 xs).setIfInBounds xs.length (.int .i64 x) = j7 (xs ++ [x])
 | [], _, _ => rfl | [_], _, _ => rfl | [_, _], _, _ => rfl | [_, _, _], _, _ => rfl | [_, _, _, _], _, _ => rfl | [_, _, _, _, _], _, _ => rfl
 | _ :: _ :: _ :: _ :: _ :: _ :: _, _, h => by simp at h; omega
theorem oU (xs : List Int) (l : List Int) (v : Value) : (j7 xs).setIfInBounds 6 v = (av (FK.mq xs l) v).toArray := rfl
theorem sr (nd : FK.Node) (v : Value) : fg (av nd v).toArray 0 (av nd v) = (av nd v).toArray := by simp [fg, av]
theorem wM {k : Nat} (h : FK.rd b q = .ok (n, q')) : FK.gz b (k + 1) l q = FK.gz b k (l ++ [(n : Int)]) q' := by simp only [FK.gz, lq h, FK.andThen]
theorem ui {k : Nat} (h : FK.rd b q = .error e) : FK.gz b (k + 1) l q = .error e := by simp only [FK.gz, l3 h, FK.andThen]
theorem sC (h : FK.dU b (FK.eo b) q = .ok (xs, q')) : FK.gz b 0 l q = .ok (FK.mq l xs, q') := by simp only [FK.gz, h, FK.andThen]
theorem uj (h : FK.dU b (FK.eo b) q = .error e) : FK.gz b 0 l q = .error e := by simp only [FK.gz, h, FK.andThen]
def Small (nd : FK.Node) : Prop := (∀ x ∈ kX nd, 0 ≤ x ∧ x < 2097152) ∧ ∀ x ∈ nd.after, 0 ≤ x ∧ x < 2097152
theorem Small.i64 {nd : FK.Node} (h : Small nd) : (i64 nd.CJ ∧ i64 nd.close ∧ i64 nd.beat ∧ i64 nd.base ∧ i64 nd.cap ∧ i64 nd.CK) ∧ ∀ x ∈ nd.after, i64 x := by
 have h0 := h.1
 simp only [kX, List.mem_cons, List.not_mem_nil, or_false, forall_eq_or_imp, forall_eq] at h0
 obtain ⟨a1, a2, a3, a4, a5, a6⟩ := h0
 unfold Go.Proofs.YtmeegfamopaljaaGreatDoor.i64
 exact ⟨⟨by omega, by omega, by omega, by omega, by omega, by omega⟩, fun x hx => by have := h.2 x hx; omega⟩
theorem uL (h : ∀ x ∈ xs, 0 ≤ x ∧ x < 2097152) (i : Nat) : 0 ≤ xs.getD i 0 ∧ xs.getD i 0 < 2097152 := by
 rw [List.getD_eq_getElem?_getD]
 cases hx : xs[i]? with
 | none => simp
 | some x => simpa using h x (List.mem_of_getElem? hx)
theorem sB {p : HP} {c : Nat} (hp : Reads p A bs) (hl : bs.length ≤ 1099511627776) (r q : Nat) (hq : q ≤ bs.length) :
 DoesX Tryz.prog G 153 [.pointer (some ⟨r, 0, none⟩)].toArray [blk r 240 #[.slice A bs.length c, .int .i64 q], p]
  (fun u m => ∃ (nd : FK.Node) (v : Value) (q' : Nat), FK.fD bs q = .ok (nd, q') ∧ q' ≤ bs.length ∧ Small nd ∧ u = .agg (av nd v).toArray ∧ m = [aF v nd.after, blk r 240 #[.slice A bs.length c, .int .i64 q'], p])
  (fun x m => ∃ e q' : Nat, FK.fD bs q = .error e ∧ x = vk e ∧ m = [blk r 240 #[.slice A bs.length c, .int .i64 q'], p]) := by
 refine DoesX.body Tryz.func153 Z Z fun E fr hE => ?_
 refine aJ (At.seq (At.region (L.op Z (aN (z := .agg #[.int .i64 0, .int .i64 0, .int .i64 0, .int .i64 0, .int .i64 0, .int .i64 0, .slice none 0 0]) Z Z fun b2 => (L.nil (At.then (At.seq (At.seq (At.region ?_)))))))))
 refine L.op Z (ah Z Z Z hE (mO b2) (Ent.refl _) ?_)
 rintro v m ⟨rfl, rfl⟩
 refine aL (L.mv Z Z (L.nil (At.then (At.block ?_))))
 refine bk (X := List Int × Nat) (fun x => [(6, .int .i64 (x.1.length : Nat)), (5, .agg (eQ b2 0)), (2, .pointer (some ⟨b2, 0, none⟩)), (0, .pointer (some ⟨r, 0, none⟩))]) (fun x => blk b2 46 (j7 x.1) :: blk r 240 #[.slice A bs.length c, .int .i64 x.2] :: p :: fr) (fun x => x.1.length ≤ 6 ∧ FK.gz bs (6 - x.1.length) x.1 x.2 = FK.fD bs q ∧ x.2 ≤ bs.length ∧ ∀ y ∈ x.1, 0 ≤ y ∧ y < 2097152) (fun x => 6 - x.1.length) ([], q) ⟨by simp, (FK.sD bs q).symm, hq, by simp⟩ ⟨rfl, rfl, rfl, rfl, trivial⟩ (Ent.refl _) ?_
 rintro ⟨xs, q1⟩ ⟨hx6, hx, hq1, hb⟩
 simp only at hx6 hx hq1 hb ⊢
 refine At.seq (At.region (L.pure Z (bl Z Z Z) (L.nil (At.then (At.seq ?_)))))
 refine aE Z (fun c7 => ?_) (fun c7 => ?_)
 ·
  have hj6 : xs.length < 6 := by omega
  have hsucc : 6 - xs.length = (5 - xs.length) + 1 := by omega
  refine At.skip (At.then (At.seq (At.block (At.seq (At.region (L.pure Z (nR Z Z Z Z Z hj6 (vw b2 xs.length hj6)) (L.as Z Z (L.nil (At.then (At.region (L.mv Z Z (L.mv Z Z ?_))))))))))))
  refine L.op Z (j5 Z Z Z hE (e9 (c := c) hp hl r q1 hq1) (aP (.tail (.head)) (.tail (.head))) ?_ ?_)
  ·
   rintro c m ⟨e, q', he, rfl, rfl⟩
   refine aJ (dx (cf (iK (dx (cf ?_)))))
   exact fX _ ⟨e, q', by rw [← hx, hsucc, ui he], rfl, rfl⟩ (Ent.cons (Ent.cons Ent.drop))
  rintro v m ⟨y, q3, hy, rfl, rfl⟩
  refine aJ ?_
  obtain ⟨hy1, hy2, hy3⟩ := FK.ri hy
  refine aR Z Z (L.st Z Z Z Z (by simp [j7]; omega) ?_)
  rw [sJ xs y hj6]
  refine L.nil (an (At.then (At.region (L.pure Z (aS (r := ((xs ++ [(y : Int)]).length : Nat)) Z Z (by rw [dd (by omega)]; simp)) (L.mv Z Z (L.nil ?_))))))
  exact At.round (xs ++ [(y : Int)], q3) ⟨by simp only [List.length_append, List.length_cons, List.length_nil]; omega, by rw [← hx, hsucc, wM hy]; simp only [List.length_append, List.length_cons, List.length_nil]; rw [show 6 - (xs.length + (0 + 1)) = 5 - xs.length by omega], hy3, fun z hz => (by rcases List.mem_append.1 hz with h | h; exact hb z h; simp at h; omega)⟩ (by simp only [List.length_append, List.length_cons, List.length_nil]; omega) ⟨rfl, rfl, rfl, rfl, trivial⟩ (Ent.refl _)
 ·
  have h6 : xs.length = 6 := by omega
  rw [h6] at hx
  refine At.exit (az (ay (ar (At.then (At.seq (At.region (L.mv Z Z (L.mv Z Z ?_))))))))
  refine L.pure Z (eO Z Z) ?_
  refine L.op Z (j5 Z Z Z hE (zp (c := c) hp hl r q1 hq1) (aP (.tail (.head)) (.tail (.head))) ?_ ?_)
  ·
   rintro c m ⟨e, q', he, rfl, rfl⟩
   refine aJ (cf ?_)
   exact fX _ ⟨e, q', by rw [← hx, uj he], rfl, rfl⟩ (Ent.cons (Ent.cons Ent.drop))
  rintro v m ⟨l, q3, hy, hq3, hlb, rfl⟩
  refine cE (aC .head ?_)
  rintro A6 c6 rfl _ _ _ _ _
  refine aI 6 Z Z Z (L.st Z Z Z Z (by simp [j7]) ?_)
  rw [oU xs l]
  refine L.nil (At.then (At.seq (At.region (L.val Z (ao (vs := av (FK.mq xs l) (.slice A6 l.length c6)) Z Z Z Z) (aw Z) ?_))))
  refine L.op Z (aK Z (m := 7) (vs := av (FK.mq xs l) (.slice A6 l.length c6)) Z Z Z Z (by simp [av, Value.oneCell']) (by simp [av]) ?_)
  rw [sr]
  refine L.nil (At.then (At.ret ?_))
  exact lD (.inl rfl) (nl [_, _, _] rfl (bZ (vs := av (FK.mq xs l) (.slice A6 l.length c6)) rfl rfl rfl rfl (aw rfl)) ⟨FK.mq xs l, _, q3, by rw [← hx]; exact sC hy, hq3, ⟨fun x hx => by simp only [kX, FK.mq, List.mem_cons, List.not_mem_nil, or_false] at hx; rcases hx with rfl | rfl | rfl | rfl | rfl | rfl <;> exact uL hb _, hlb⟩, rfl, rfl⟩ Ent.drop)
end
end Go.Proofs.YtmeegfamopaljaaGreatDoor

namespace Go.Proofs.YtmeegfamopaljaaGreatDoor
open Go Go.RowKit Go.SL
variable {G : Env → Prop}
section
variable {ns : List FK.Node} {vs : List Value} {nd : FK.Node} {fr : List HP} {v : Value}
theorem qH : ∀ (a : List HP) {b : List HP}, Ent (a ++ b) b
 | [], _ => Ent.refl _
 | _ :: a, _ => Ent.drop.trans (qH a)
theorem l8 (nd : FK.Node) (v : Value) : Instr.fill (fun i => some (i * 7, 7)) (Array.map (fun x => (Value.agg #[.int .i64 0, .int .i64 0, .int .i64 0, .int .i64 0, .int .i64 0, .int .i64 0, .slice none 0 0]).cells[x % (Value.agg #[.int .i64 0, .int .i64 0, .int .i64 0, .int .i64 0, .int .i64 0, .int .i64 0, .slice none 0 0]).cells.size]!) (Array.range (1 * 7)))
 ((List.map (fun x => x.1) [((0 : Nat), Operand.tmp 15)]).zip [Value.agg (av nd v).toArray]) = some (av nd v).toArray := by
 have e1 : Array.range (1 * 7) = #[0, 1, 2, 3, 4, 5, 6] := rfl
 rw [e1]
 simp [Instr.fill, av, Value.cells]
theorem jZ (h : vs.length = ns.length) : bf (vs ++ [v]) (ns ++ [nd]) = bf vs ns ++ [aF v nd.after] := by
 unfold bf
 rw [List.zip_append h]
 simp
theorem uv {v' : Value} {u : Value} {x y z : HP} (h : vs.length = ns.length) :
 Ent (row 46 7 v' (ns.length + 1) (aZ ns vs ++ av nd u) :: x :: aF u nd.after :: y :: z :: (bf vs ns ++ fr)) (y :: z :: row 46 7 v' (ns ++ [nd]).length (aZ (ns ++ [nd]) (vs ++ [u])) :: (bf (vs ++ [u]) (ns ++ [nd]) ++ fr)) := by
 rw [jZ h, iw ns vs nd u h, show (ns ++ [nd]).length = ns.length + 1 by simp]
 refine (Ent.cons Ent.drop).trans (Ent.perm ?_)
 have h1 : (([row 46 7 v' (ns.length + 1) (aZ ns vs ++ av nd u), aF u nd.after] ++ [y, z]) ++ (bf vs ns ++ fr)).Perm (([y, z] ++ [row 46 7 v' (ns.length + 1) (aZ ns vs ++ av nd u), aF u nd.after]) ++ (bf vs ns ++ fr)) := List.perm_append_comm.append_right _
 refine h1.trans (List.Perm.cons _ (List.Perm.cons _ (List.Perm.cons _ ?_)))
 have h2 : (aF u nd.after :: (bf vs ns ++ fr)).Perm (bf vs ns ++ aF u nd.after :: fr) := List.perm_middle.symm
 simpa using h2
theorem sI {y z : HP} (h : vs.length = ns.length) :
 Ent (y :: z :: row 46 7 v ns.length (aZ ns vs) :: (bf vs ns ++ fr)) (nodesOwn v ns :: y :: z :: fr) := by
 refine (Ent.perm ?_).trans (nodesOwn.ent h)
 have h1 : (([y, z] ++ (row 46 7 v ns.length (aZ ns vs) :: bf vs ns)) ++ fr).Perm (((row 46 7 v ns.length (aZ ns vs) :: bf vs ns) ++ [y, z]) ++ fr) := List.perm_append_comm.append_right _
 simpa using h1
set_option maxRecDepth 10000 in
theorem xb {p : HP} {A : Option Addr} {c : Nat} {bs : List UInt8} (hp : Reads p A bs) (hl : bs.length ≤ 1099511627776) (r q : Nat) (hq : q ≤ bs.length) :
 DoesX Tryz.prog G 152 [.pointer (some ⟨r, 0, none⟩), .func (.func 153) #[.pointer (some ⟨r, 0, none⟩)] #[]].toArray [blk r 240 #[.slice A bs.length c, .int .i64 q], p]
  (fun u m => ∃ (ns : List FK.Node) (q' : Nat), FK.dU bs (FK.fD bs) q = .ok (ns, q') ∧ q' ≤ bs.length ∧ (∀ x ∈ ns, Small x) ∧ (∃ A' c', u = .slice A' ns.length c') ∧ m = [nodesOwn u ns, blk r 240 #[.slice A bs.length c, .int .i64 q'], p])
  (fun x m => ∃ e q' : Nat, FK.dU bs (FK.fD bs) q = .error e ∧ x = vk e ∧ m = [blk r 240 #[.slice A bs.length c, .int .i64 q'], p]) := by
 refine DoesX.body Tryz.func152 Z Z fun E fr hE => ?_
 refine aJ (At.seq (At.region (L.as Z Z (L.nil (At.then (At.seq (At.region (L.as Z Z (L.nil (At.then (At.seq (At.seq (At.region (L.mv Z Z ?_))))))))))))))
 refine L.op Z (j5 Z Z Z hE (e9 hp hl r q hq) (Ent.refl _) ?_ ?_)
 ·
  rintro c m ⟨e, q', he, rfl, rfl⟩
  exact aJ (cf (cf (fX _ ⟨e, q', ou he, rfl, rfl⟩ (Ent.refl _))))
 rintro v m ⟨n, q1, hn, rfl, rfl⟩
 refine aJ ?_
 obtain ⟨hn1, hn2, hn3⟩ := FK.ri hn
 refine L.as Z Z (L.nil (At.then (At.block ?_)))
 refine bk (X := Nat × List FK.Node × List Value × Value × Nat) (fun x => [(6, .int .i64 x.1), (5, x.2.2.2.1), (0, .pointer (some ⟨r, 0, none⟩)), (1, .func (.func 153) #[.pointer (some ⟨r, 0, none⟩)] #[])]) (fun x => blk r 240 #[.slice A bs.length c, .int .i64 x.2.2.2.2] :: p :: row 46 7 x.2.2.2.1 x.2.1.length (aZ x.2.1 x.2.2.1) :: (bf x.2.2.1 x.2.1 ++ fr)) (fun x => FK.kY (FK.fD bs) x.1 x.2.1 x.2.2.2.2 = FK.dU bs (FK.fD bs) q ∧ x.2.2.2.2 ≤ bs.length ∧ (∀ y ∈ x.2.1, Small y) ∧ x.2.1.length + x.1 ≤ 2097152 ∧ x.2.2.1.length = x.2.1.length) (fun x => x.1) (n, [], [], .slice none 0 0, q1) ⟨(py hn).symm, hn3, by simp, by simp; omega, rfl⟩ ⟨rfl, rfl, rfl, rfl, trivial⟩ (Ent.cons (Ent.cons Ent.row0)) ?_
 rintro ⟨k, ns, vs, v5, q2⟩ ⟨hm, hq2, hb, hlen, hvs⟩
 simp only at hm hq2 hb hlen hvs ⊢
 refine At.seq (At.seq (At.region (L.mv Z Z (L.pure Z (cG Z Z Z) (L.nil (At.then ?_))))))
 refine aE Z (fun c10 => ?_) (fun c10 => ?_)
 ·
  obtain ⟨k, rfl⟩ : ∃ j, k = j + 1 := ⟨k - 1, by omega⟩
  refine At.skip (At.then (At.seq (At.block (At.region (L.mv Z Z (L.mv Z Z ?_))))))
  refine L.op Z (rG Z Z Z Z hE (sB (c := c) hp hl r q2 hq2) (Ent.refl _) ?_ ?_)
  ·
   rintro c m ⟨e, q', he, rfl, rfl⟩
   refine aJ (dx (cf (iK (dx (cf ?_)))))
   exact fX [_, _] ⟨e, q', by rw [← hm, rI he], rfl, rfl⟩ (Ent.cons (Ent.cons (Ent.drop.trans (qH _))))
  rintro v m ⟨nd, u6, q3, hy, hq3, hsm, rfl, rfl⟩
  refine cE (aC .head ?_)
  rintro A6 c6 rfl _ _ _ _ _
  refine L.op Z (dF (m := 1) (z := .agg #[.int .i64 0, .int .i64 0, .int .i64 0, .int .i64 0, .int .i64 0, .int .i64 0, .slice none 0 0]) (size := 7) (ps := [(0, .tmp 15)]) (vs := [.agg (av nd (.slice A6 nd.after.length c6)).toArray]) (cs := (av nd (.slice A6 nd.after.length c6)).toArray) Z Z Z Z (by omega) (by omega) Z (l8 _ _) fun b16 => ?_)
  refine L.op rfl (cm rfl rfl nN rfl (by omega) rfl rfl (.tail (.tail (.tail (.tail (.head))))) (news := av nd (.slice A6 nd.after.length c6)) rfl (fun h => by cases h) (fN (fun j u h => by simpa using h)) (by simp [av, Value.oneCell']) (by unfold maxLen; omega) (by omega) fun v' hv' => ?_)
  refine L.as Z Z (L.nil (an (At.then (At.region (L.mv Z Z (L.pure Z (eu (r := (k : Int)) Z Z (by rw [dd (by omega)]; omega)) (L.as Z Z (L.nil ?_))))))))
  exact At.round (k, ns ++ [nd], vs ++ [.slice A6 nd.after.length c6], v', q3) ⟨by rw [← hm, pE hy], hq3, fun z hz => (by rcases List.mem_append.1 hz with h | h; exact hb z h; simp at h; rw [h]; exact hsm), by simp only [List.length_append, List.length_cons, List.length_nil]; omega, by simp [hvs]⟩ (by simp only; omega) ⟨rfl, rfl, rfl, rfl, trivial⟩ (uv hvs)
 ·
  obtain rfl : k = 0 := by omega
  refine aC (.tail (.tail (.head))) ?_
  rintro A6 c6 rfl _ _ _ _ _
  refine At.exit (az (ay (ar (At.then (At.seq (At.region (L.mv Z Z (L.as Z Z (L.nil (At.then (At.ret ?_)))))))))))
  exact lD (.inl Z) (aA [_, _, _] rfl Z ⟨ns, q2, by rw [← hm, pD], hq2, hb, ⟨_, _, rfl⟩, rfl⟩ (sI hvs))
end
end Go.Proofs.YtmeegfamopaljaaGreatDoor

namespace Go.SL
open Go Go.RowKit
end Go.SL
namespace Go.Proofs.YtmeegfamopaljaaGreatDoor
open Go Go.RowKit Go.SL
variable {G : Env → Prop}
section
variable {ns : List FK.Node} {A : Option Addr} {vs : List Value}
theorem B5 {E : Env} {l r : List HP} {w0 : World} {B : Nat} {c : Nat} {xs : List Int} (s : Sel (old E w0) l r) (h0 : E.is w0) (h : IntsAt w0 B A c xs) (hB : B ≤ w0.heap.size) : ∀ w, Holds E w l → vl A (bp xs) w :=
 rl s h0 fun w hb ad had j u hj => by
  have hk := h.keep (hb.to_same.mono hB)
  simp only [bp, List.getElem?_map, Option.map_eq_some_iff] at hj
  obtain ⟨x, hx, rfl⟩ := hj
  obtain ⟨b, off, hA, _, hc⟩ := hk.cells (by have := (List.getElem?_eq_some_iff.1 hx).1; omega)
  rw [had] at hA
  injection hA with hA
  subst hA
  rw [add_plain]
  exact hc j x hx
theorem NodesAt.i64s {w : World} {B : Nat} {c : Nat} (h : NodesAt w B A c ns) : ∀ n ∈ ns, (i64 n.CJ ∧ i64 n.close ∧ i64 n.beat ∧ i64 n.base ∧ i64 n.cap ∧ i64 n.CK) ∧ ∀ x ∈ n.after, i64 x := fun n hn => by
 obtain ⟨i, hi⟩ := List.getElem?_of_mem hn
 obtain ⟨b, off, _, _, hc⟩ := h.cells (by have := (List.getElem?_eq_some_iff.1 hi).1; omega)
 have hnode := hc i n hi
 obtain ⟨_, _, _, hi6⟩ := hnode.c6
 exact ⟨hnode.rng, hi6.rng⟩
theorem xG {v' : Value} {k : Nat} {u : Value} {nd : FK.Node} {a b x y z : HP} (h : vs.length = k) (hk : ns[k]? = some nd) :
 Ent (row 46 7 v' (k + 1) (aZ (ns.take k) vs ++ av nd u) :: a :: b :: aF u nd.after :: x :: y :: z :: bf vs (ns.take k)) (row 46 7 v' (k + 1) (aZ (ns.take (k + 1)) (vs ++ [u])) :: x :: y :: z :: bf (vs ++ [u]) (ns.take (k + 1))) := by
 have hl : vs.length = (ns.take k).length := by have := (List.getElem?_eq_some_iff.1 hk).1; simp; omega
 rw [gO hk, jZ hl, iw _ _ _ _ hl]
 refine Ent.cons (Ent.drop.trans (Ent.drop.trans (Ent.perm ?_)))
 have h1 : ([aF u nd.after] ++ (x :: y :: z :: bf vs (ns.take k))).Perm ((x :: y :: z :: bf vs (ns.take k)) ++ [aF u nd.after]) := List.perm_append_comm
 simpa using h1
theorem uZ {v : Value} {z : HP} (h : vs.length = ns.length) :
 Ent (row 46 7 v ns.length (aZ (ns.take ns.length) vs) :: z :: bf vs (ns.take ns.length)) ([nodesOwn v ns] ++ [z]) := by
 rw [List.take_length]
 refine (Ent.perm ?_).trans (nodesOwn.ent (r := [z]) h)
 exact List.Perm.cons _ (List.perm_append_comm (l₁ := [z]) (l₂ := bf vs ns))
set_option maxRecDepth 10000 in
theorem q9 (dl : Int) (A : Option Addr) (c : Nat) (ns : List FK.Node) (hfit : lC ns) : Gives Tryz.prog G 45 [.agg #[.int .i64 dl, .slice A ns.length c]].toArray (fun w => NodesAt w w.heap.size A c ns)
 fun v m => ∃ A' c', v = .agg #[.int .i64 dl, .slice A' ns.length c'] ∧ m = [nodesOwn (.slice A' ns.length c') ns] := by
 refine Gives.body Tryz.func45 Z Z fun E w0 hE h0 hN => ?_
 refine At.seq (At.region (L.op Z (cb Z Z fun b1 => (L.op Z (aN (z := .agg #[.int .i64 0, .slice none 0 0]) Z Z fun b2 => (L.nil (At.then (At.seq (At.region (L.as Z Z (L.nil (At.then (At.seq (At.seq (At.region (aI 1 Z Z Z (bd Z Z Z Z (L.pure Z (aM Z Z) (L.mv Z Z (L.nil (At.then ?_)))))))))))))))))))))
 refine At.block ?_
 refine bk (X := Nat × List Value × Value) (fun x => [(9, .int .i64 x.1), (3, x.2.2), (7, .slice A ns.length c), (8, .int .i64 ns.length), (1, .pointer (some ⟨b1, 0, none⟩)), (2, .pointer (some ⟨b2, 0, none⟩))]) (fun x => row 46 7 x.2.2 x.1 (aZ (ns.take x.1) x.2.1) :: blk b2 29 #[.int .i64 0, .slice none 0 0] :: blk b1 29 #[.int .i64 dl, .slice A ns.length c] :: old E w0 :: bf x.2.1 (ns.take x.1)) (fun x => x.1 ≤ ns.length ∧ x.2.1.length = x.1) (fun x => ns.length - x.1) (0, [], .slice none 0 0) ⟨by omega, rfl⟩ ⟨rfl, rfl, rfl, rfl, rfl, rfl, trivial⟩ Ent.row0 ?_
 rintro ⟨k, vs, v3⟩ ⟨hk, hvs⟩
 simp only at hk hvs ⊢
 refine At.seq (At.region (L.pure Z (bl Z Z Z) (L.nil (At.then (At.seq ?_)))))
 refine aE Z (fun c10 => ?_) (fun c10 => ?_)
 ·
  have hlt : k < ns.length := by omega
  obtain ⟨b, off, rfl, hbB, hcell⟩ := hN.cells (by omega)
  obtain ⟨nd, cN⟩ : ∃ nd, ns[k]? = some nd := ⟨ns[k], by simp [hlt]⟩
  obtain ⟨A6, c6, hrow, hints⟩ := NodeAt.row (hcell k nd cN)
  have hf1 := hfit.1
  have hf2 := hfit.2 nd (List.mem_of_getElem? cN)
  refine At.skip (At.then (At.seq (At.block (At.seq (At.region (L.pure Z (aT (z := 7) Z Z Z Z (by omega)) (L.val Z (ao (vs := db nd A6 c6) Z Z Z Z) (tL (.tail (.tail (.tail (.head)))) h0 hrow) (L.op Z (aN (z := .agg #[.int .i64 0, .int .i64 0, .int .i64 0, .int .i64 0, .int .i64 0, .int .i64 0, .slice none 0 0]) Z Z fun b5 => ?_)))))))))
  refine L.op Z (aK Z (m := 7) (vs := db nd A6 c6) Z Z Z Z (by simp [db, Value.oneCell']) (by simp [db, Value.cells]) ?_)
  simp only [Value.cells, ol]
  refine L.nil (At.then (At.seq (At.region (aI 6 Z Z Z (bd Z Z Z Z ?_)))))
  refine At.ent (Ent.row0 (e := 3) (size := 1)) ?_
  refine L.op rfl (cm (k := 0) (xs := []) rfl rfl fF rfl (by omega) rfl rfl .head (news := bp nd.after) (by simp [bp]) (fun h => by have := hints.cells; subst h; rcases Nat.eq_zero_or_pos nd.after.length with h | h; exact h; obtain ⟨_, _, h, _⟩ := this h; cases h) (B5 (.tail (.tail (.tail (.tail (.tail (.head)))))) h0 hints (Nat.le_refl _)) (by simp [bp, Value.oneCell']) (by unfold maxLen; omega) (by omega) fun v15 hv15 => ?_)
  simp only [Nat.zero_add, List.nil_append]
  refine aC .head ?_
  rintro A7 c7 rfl _ _ _ _ _
  refine aI 6 Z Z Z (L.st Z Z Z Z (by simp [db]) (L.nil (At.then (At.region (L.mv Z Z ?_)))))
  refine L.val Z (ao (vs := av nd (.slice A7 nd.after.length c7)) Z Z Z Z) (aw Z) ?_
  refine L.op Z (dF (m := 1) (z := .agg #[.int .i64 0, .int .i64 0, .int .i64 0, .int .i64 0, .int .i64 0, .int .i64 0, .slice none 0 0]) (size := 7) (ps := [(0, .tmp 18)]) (vs := [.agg (av nd (.slice A7 nd.after.length c7)).toArray]) (cs := (av nd (.slice A7 nd.after.length c7)).toArray) Z Z Z Z (by omega) (by omega) Z (l8 _ _) fun b19 => ?_)
  refine L.op rfl (cm rfl rfl nN rfl (by omega) rfl rfl (.tail (.tail (.tail (.head)))) (news := av nd (.slice A7 nd.after.length c7)) rfl (fun h => by cases h) (fN (fun j u h => by simpa using h)) (by simp [av, Value.oneCell']) (by unfold maxLen; omega) (by omega) fun v4 hv4 => ?_)
  refine L.as Z Z (L.nil (an (At.then (At.region (L.pure Z (aS Z Z (dd (by omega))) (L.mv Z Z (L.nil ?_)))))))
  exact At.round (k + 1, vs ++ [.slice A7 nd.after.length c7], v4) ⟨by simp only; omega, by simp [hvs]⟩ (by simp only; omega) ⟨rfl, rfl, rfl, rfl, rfl, rfl, trivial⟩ (xG hvs cN)
 ·
  obtain rfl : k = ns.length := by omega
  refine aC .head ?_
  rintro A7 c7 rfl _ _ _ _ _
  refine At.exit (az (ay (ar (At.then (At.seq (At.region (L.mv Z Z (aI 1 Z Z Z ?_))))))))
  refine L.st Z Z Z Z (by first | decide | simp | (simp; omega)) ?_
  refine L.nil (At.then (At.seq (At.region (L.val Z (ao (vs := [.int .i64 dl, .slice A7 ns.length c7]) Z Z Z Z) (aw Z) ?_))))
  refine L.op Z (aK Z (m := 2) (vs := [.int .i64 dl, .slice A7 ns.length c7]) Z Z Z Z (by simp [Value.oneCell']) (by simp) ?_)
  exact L.nil (At.then (At.ret (nl [_] rfl (bZ (vs := [.int .i64 dl, .slice A7 ns.length c7]) Z Z Z Z (aw Z)) ⟨A7, c7, rfl, rfl⟩ (Ent.drop.trans (Ent.drop.trans (uZ hvs))))))
end
end Go.Proofs.YtmeegfamopaljaaGreatDoor

namespace Go.SL
open Go Go.RowKit
theorem Sel.left {p : HP} {l r : List HP} (s : Sel p l r) (m : List HP) : Sel p (l ++ m) (r ++ m) := by
 induction s with
 | head => exact .head
 | tail _ ih => exact .tail ih
theorem kU {p : HP} : ∀ {l : List HP}, p ∈ l → ∃ r, Sel p l r
 | [], h => by cases h
 | q :: l, h => by
  rcases List.mem_cons.1 h with rfl | h
  · exact ⟨l, .head⟩
  · obtain ⟨r, s⟩ := kU h
    exact ⟨q :: r, .tail s⟩
section
variable {P : Program} {E : Env} {n : Nat} {D : List Deferred} {ts : List (Nat × Value)} {l : List HP} {ops : Array Oper} {Q : Exit → Act → World → Prop} {i : Nat} {ty : TypeId} {pos : String} {af : Array Edge} {g : Option (Nat × Bool)}
theorem zl (z : Value) (m : Nat) (hz : z.cells = #[z]) : madeCells z.cells (m * 1) = (List.replicate m z).toArray := by
 rw [hz]
 unfold madeCells
 apply Array.ext
 · simp
 · intro j h1 h2
   simp [Nat.mod_one]
theorem qi {t e : TypeId} {x : Operand} {z : Value} {m bytes : Nat} {K : Act → World → Prop} (hi : Nat.blt i n = true) (ht : P.underlying t = some (.slice e)) (hel : e7 P e z 1 bytes) (hz : z.cells = #[z]) (hx : ev ts x = some (.int .i64 (m : Int))) (hb : bytes * m ≤ 281474976710656) (hm : m ≤ 9223372036854775807)
 (h : ∀ b, At E n D ((i, .slice (some ⟨b, 0, none⟩) m m) :: ts) (blk b e (List.replicate m z).toArray :: l) K) : At E n D ts l (fun a w => (Oper.mk (some i) (.makeSlice t x x) ty pos af g).wp P a w K Q) := fun a w f hw => by
 obtain ⟨ti, hti, e0, e1, e2⟩ := info_parts hel
 have hb' : (ti.bytes : Int) * (m : Int) ≤ 281474976710656 := by
  rw [e2]
  have : ((bytes * m : Nat) : Int) ≤ 281474976710656 := by omega
  rwa [Int.natCast_mul] at this
 have hr0 := run_make (P := P) w t e ti z ht hti e0 .i64 .i64 m m (by omega) (by omega) hb' (by omega)
 rw [Int.toNat_natCast, e1, zl z m hz] at hr0
 have hr : (execOp a.eval (Oper.mk (some i) (.makeSlice t x x) ty pos af g)).run P w = .ok (.value (.slice (some ⟨w.heap.size, 0, none⟩) m m)) (w.alloc (.cells (List.replicate m z).toArray e)) := by
  simp only [execOp, f.eval hx, Sem.run_bind, hr0, Result.andThen_ok, Sem.run_pure]
 show (Oper.mk (some i) (.makeSlice t x x) ty pos af g).wp P a w K Q
 unfold Oper.wp
 rw [hr]
 exact h _ _ _ (f.put i (Nat.le_of_ble_eq_true hi) _) (hw.alloc _)
end
end Go.SL
namespace Go.Proofs.YtmeegfamopaljaaGreatDoor
open Go Go.RowKit Go.SL
theorem sc {vs : List Value} {ns : List FK.Node} {i : Nat} {u : Value} {nd : FK.Node} (hu : vs[i]? = some u) (hn : ns[i]? = some nd) : aF u nd.after ∈ bf vs ns :=
 List.mem_map.2 ⟨(u, nd), List.mem_of_getElem? (i := i) (by simp [List.getElem?_zip_eq_some, hn, hu]), rfl⟩
theorem Ent.set : ∀ (l : List HP) (i : Nat) (x : HP), Ent (x :: l) (l.set i x)
 | [], _, _ => Ent.drop
 | _ :: _, 0, _ => Ent.cons Ent.drop
 | _ :: l, i + 1, x => (Ent.perm (List.Perm.swap _ _ _)).trans (Ent.cons (Ent.set l i x))
end Go.Proofs.YtmeegfamopaljaaGreatDoor
