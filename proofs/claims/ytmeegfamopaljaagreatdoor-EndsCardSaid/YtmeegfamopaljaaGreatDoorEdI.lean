/- The walk of flow.Order: the nodes, each behind those for which it waits. -/
import Derived.Test.YtmeegfamopaljaaGreatDoorEdH
import Derived.ScopeJumps
import Derived.WalkMore
import Derived.Laws.MakeOwn
import Derived.Laws.BitsAllLaws
import Derived.LoopTactic
import Derived.Deep.OwnRows
import Derived.Deep.LoopGhost
import Derived.Maps.AppendAt
import Derived.OwnWalk
import Derived.Deep.RegionWith
import Derived.Deep.DeepCutAuto
import Derived.StillTailTactics
import Derived.Laws.Externs
import Derived.Stop.Asserts
namespace Go.Proofs.YtmeegfamopaljaaGreatDoor
open Go Go.RowKit Go.Deep
def Blk (w : World) (g : Nat) (t : TypeId) (cs : Array Value) : Prop := w.heap[g]? = some (.cells cs t (0, 0))
section
variable {w w' : World} {g : Nat} {t : TypeId} {cs : Array Value}
theorem Blk.lt (h : Blk w g t cs) : g < w.heap.size := by
 rcases Nat.lt_or_ge g w.heap.size with hlt | hge
 · exact hlt
 · unfold Blk at h; rw [Array.getElem?_eq_none hge] at h; cases h
theorem Blk.cell (h : Blk w g t cs) (i : Nat) : w.cell? ⟨g, i, none⟩ = cs[i]? := cell_of_row w g i cs t (0, 0) h
theorem Blk.free (h : Blk w g t cs) (i : Nat) : w.frozen? ⟨g, i, none⟩ = false := by
 unfold Blk at h
 simp [World.frozen?, h]
theorem Blk.made (w : World) (t : TypeId) (cs : Array Value) : Blk (w.alloc (.cells cs t)) w.heap.size t cs := heap_alloc_new w _
theorem Blk.put (h : Blk w g t cs) (i : Nat) (u : Value) : Blk (w.setCell ⟨g, i, none⟩ u) g t (cs.setIfInBounds i u) := by
 unfold Blk at h ⊢
 simp [World.setCell, Array.getElem?_modify, h]
theorem Blk.same {B : Nat} (h : Blk w g t cs) (s : Same B w w') (hg : g < B) : Blk w' g t cs := (s g hg).trans h
end
def cp (l : List FK.Node) (i m : Nat) (j : Nat) : Nat := if j < i then FK.fj (FK.cO l j) else if j = i then FK.fj ((FK.cO l i).take m) else 0
def cy (n : Nat) (F : Nat → Nat) : Array Value := ((List.range n).map fun j => Value.int .u64 (F j)).toArray
theorem eG {n : Nat} {F : Nat → Nat} {j : Nat} (h : j < n) : (cy n F)[j]? = some (.int .u64 (F j)) := by simp [cy, h]
theorem oE {n : Nat} {F F' : Nat → Nat} {j : Nat} (hF : ∀ k, k ≠ j → F' k = F k) : (cy n F).setIfInBounds j (.int .u64 (F' j)) = cy n F' := by
 apply Array.ext_getElem?
 intro k
 unfold cy
 rw [Array.getElem?_setIfInBounds]
 by_cases hk : j = k
 · subst hk
   by_cases hj : j < n <;> simp [hj]
 · rw [if_neg hk]
   by_cases hj : k < n
   · simp [hj, hF k (fun e => hk e.symm)]
   · simp [hj]
theorem mo {w : World} {g n j : Nat} {F F' : Nat → Nat} (h : Blk w g 87 (cy n F)) (hF : ∀ k, k ≠ j → F' k = F k) : Blk (w.setCell ⟨g, j, none⟩ (.int .u64 (F' j))) g 87 (cy n F') := by
 have := h.put j (.int .u64 (F' j))
 rwa [oE hF] at this
theorem ml (l : List FK.Node) (n : Nat) : madeCells #[Value.int .u64 0] n = cy n (cp l 0 0) := by
 have : cp l 0 0 = fun _ => 0 := by funext j; simp [cp, FK.fj]
 rw [this]
 unfold madeCells cy
 apply Array.ext_getElem?
 intro k
 by_cases hk : k < n <;> simp [hk, Nat.mod_one]
theorem n0 {l : List FK.Node} {i m x : Nat} (h : (FK.cO l i)[m]? = some x) : cp l i (m + 1) i = cp l i m i ||| (1 <<< x) := by
 obtain ⟨hm, hx⟩ := List.getElem?_eq_some_iff.1 h
 simp only [cp, Nat.lt_irrefl, if_false, if_true]
 rw [List.take_succ_eq_append_getElem hm, FK.sD, hx]; simp [FK.fj]
theorem mm {l : List FK.Node} {i m m' k : Nat} (h : k ≠ i) : cp l i m k = cp l i m' k := by simp [cp, h]
theorem n4 {l : List FK.Node} {i m : Nat} (h : (FK.cO l i).length ≤ m) : cp l i m = cp l (i + 1) 0 := by
 funext j
 unfold cp
 rw [List.take_of_length_le h]
 by_cases h1 : j < i
 · rw [if_pos h1, if_pos (by omega)]
 · by_cases h2 : j = i
   · subst h2; simp
   · rw [if_neg h1, if_neg h2, if_neg (by omega)]; split <;> simp [FK.fj]
theorem vt {n : Nat} : ∀ {l : List Nat}, (∀ k ∈ l, k < n) → FK.fj l < 2 ^ n := by
 intro l
 induction l with
 | nil => intro _; exact Nat.two_pow_pos _
 | cons k l ih =>
  intro h
  simp only [FK.fj]
  refine Nat.or_lt_two_pow ?_ (ih fun x hx => h x (by simp [hx]))
  rw [Nat.one_shiftLeft]
  exact Nat.pow_lt_pow_right (by omega) (h k (by simp))
theorem iH {l : List FK.Node} {i m j n : Nat} (h : ∀ i, ∀ k ∈ FK.cO l i, k < n) : cp l i m j < 2 ^ n := by
 unfold cp
 split
 · exact vt (h j)
 · split
   · exact vt fun k hk => h i k (List.mem_of_mem_take hk)
   · exact Nat.two_pow_pos _
theorem eV (a b : Nat) (ha : a < 4096) (hb : b < 4096) : bits BinOp.and IntKind.u64 (a : Int) (b : Int) = ((a &&& b : Nat) : Int) := bits_and_u64_nat a b (by omega) (by omega)
theorem kc {wv : Nat} (h : wv ≠ 0) : wv &&& (wv - 1) < wv := by
 have : wv &&& (wv - 1) ≤ wv - 1 := Nat.and_le_right
 omega
def vM (I : World → List Nat → Prop) (l : List FK.Node) (e : Ending) (w' : World) : Prop :=
 ∃ (left : Nat) (T : List Nat), e = .returned (.int .u64 left) ∧ I w' T ∧ FK.Ordering l left T ∧ (∀ i, left.testBit i = true → ∃ k ∈ FK.cO l i, left.testBit k = true)
def clr (left t : Nat) : Nat := left &&& (18446744073709551615 - 2 ^ t)
theorem gf {left t : Nat} (ht : t < 64) (hleft : left < 18446744073709551616) (j : Nat) : (clr left t).testBit j = (left.testBit j && decide (j ≠ t)) := by
 unfold clr
 rw [Nat.testBit_and]
 by_cases hj : j < 64
 · have e : 18446744073709551615 - 2 ^ t = 2 ^ 64 - (2 ^ t + 1) := by omega
   have hp : 2 ^ t < 2 ^ 64 := Nat.pow_lt_pow_right (by omega) ht
   rw [e, Nat.testBit_two_pow_sub_succ hp, Nat.testBit_two_pow]
   simp [hj, eq_comm]
 · have hp : 2 ^ 64 ≤ 2 ^ j := Nat.pow_le_pow_right (by omega) (by omega)
   have : left.testBit j = false := Nat.testBit_lt_two_pow (by omega)
   rw [this]; simp
theorem clr_lt {left t : Nat} (ht : t < 64) (hleft : left < 18446744073709551616) (hb : left.testBit t = true) : clr left t < left := by
 have h1 : clr left t ≤ left := Nat.and_le_left
 have h2 : clr left t ≠ left := by
  intro e
  have := gf ht hleft t
  rw [e, hb] at this
  simp at this
 omega
theorem iV {t : Nat} (ht : t < 64) : IntKind.u64.wrap (2 ^ t) = 2 ^ t := by
 rw [IntKind.wrap_u64]
 have hp : 2 ^ t < 2 ^ 64 := Nat.pow_lt_pow_right (by omega) ht
 have e : ((2 : Int) ^ t) = ((2 ^ t : Nat) : Int) := by simp
 rw [e]
 generalize 2 ^ t = x at hp
 omega
theorem n7 {n : Nat} (h : n ≤ 12) : IntKind.u64.wrap (IntKind.u64.wrap (2 ^ n) - 1) = ((2 ^ n - 1 : Nat) : Int) := by
 rw [iV (by omega), IntKind.wrap_u64]
 have hp : 2 ^ n ≤ 2 ^ 12 := Nat.pow_le_pow_right (by omega) h
 have h0 := Nat.two_pow_pos n
 have e : ((2 : Int) ^ n) = ((2 ^ n : Nat) : Int) := by simp
 rw [e]
 generalize 2 ^ n = x at hp h0
 omega
theorem ge {l : List FK.Node} {left : Nat} {T : List Nat} (h : FK.Ordering l left T) (hl : l.length ≤ 12) : left < 4096 := by
 have : left < 2 ^ 12 := by
  apply Nat.lt_of_not_le
  intro hge
  have hne : left ≠ 0 := by intro e; rw [e] at hge; exact absurd hge (by decide)
  have h1 := Nat.testBit_log2 hne
  have h2 := ((h.bits _).1 h1).1
  have h3 : 12 ≤ left.log2 := (Nat.le_log2 hne).2 hge
  omega
 simpa using this
def Asked (l : List FK.Node) (left wv : Nat) : Prop := (∀ i, wv.testBit i = true → left.testBit i = true) ∧ ∀ i, left.testBit i = true → wv.testBit i = true ∨ ∃ k ∈ FK.cO l i, left.testBit k = true
theorem Asked.start (l : List FK.Node) (left : Nat) : Asked l left left := ⟨fun _ h => h, fun _ h => .inl h⟩
theorem Asked.next {l : List FK.Node} {left wv : Nat} (h : Asked l left wv) {t : Nat} (h1 : wv.testBit t = true) (h2 : ∀ j, j < t → wv.testBit j = false) (hb : ∃ k ∈ FK.cO l t, left.testBit k = true) : Asked l left (wv &&& (wv - 1)) := by
 have e := FK.l3 t wv h1 h2
 refine ⟨fun i hi => ?_, fun i hi => ?_⟩
 · rw [e i] at hi; simp at hi; exact h.1 i hi.1
 · rcases h.2 i hi with hw | hw
   · by_cases hit : i = t
     · subst hit; exact .inr hb
     · exact .inl (by rw [e i]; simp [hw, hit])
   · exact .inr hw
def BA (w : World) (A : Option Addr) (c : Nat) (l : List FK.Node) (F : FuncId) (cap : Array Value) (I : World → List Nat → Prop) (a : Act) (w' : World) : Prop :=
 ∃ (left : Nat) (T : List Nat) (u2 u3 u6 u7 u8 u9 u10 u11 u12 u13 u14 u15 u16 u17 u18 u19 u20 u21 u22 u23 u24 u25 u26 u27 u28 u29 u30 u31 u32 u33 u34 u35 u36 u37 u38 u39 u40 u41 u42 u43 u44 u45 u46 u47 u48 u49 u50 u51 u52 u53 u54 u55 u56 u57 u58 u59 u60 u61 u62 u63 u64 u65 u66 : Value), a = { tmps := #[.slice A l.length c, .func (.func F) #[] cap, u2, u3, .int .u64 left, .slice (some ⟨w.heap.size, 0, none⟩) l.length l.length, u6, u7, u8, u9, u10, u11, u12, u13, u14, u15, u16, u17, u18, u19, u20, u21, u22, u23, u24, u25, u26, u27, u28, u29, u30, u31, u32, u33, u34, u35, u36, u37, u38, u39, u40, u41, u42, u43, u44, u45, u46, u47, u48, u49, u50, u51, u52, u53, u54, u55, u56, u57, u58, u59, u60, u61, u62, u63, u64, u65, u66], defers := [] } ∧
  I w' T ∧ FK.Ordering l left T ∧ Blk w' w.heap.size 87 (cy l.length (cp l l.length 0))
set_option maxRecDepth 100000 in
set_option maxHeartbeats 4000000 in
theorem lX (w : World) (B : Nat) (A : Option Addr) (c : Nat) (l : List FK.Node) (F : FuncId) (cap : Array Value) (I : World → List Nat → Prop) (hB : B ≤ w.heap.size) (hl : l.length ≤ 12)
 (hv : ∀ i, ∀ k ∈ FK.cO l i, k < l.length) (hpos : ∀ n ∈ l, ∀ x ∈ n.after, 0 ≤ x)
 (hF : ∀ (args : Array Value) (W : World), (callFunc F args).run Tryz.prog W = .ok (.enter F args) W) (h0 : I w []) (hI : ∀ W T, I W T → NodesAt W B A c l ∧ Tab W ∧ w.heap.size ≤ W.heap.size)
 (hstab : ∀ W W' T, I W T → Below w.heap.size W W' → I W' T)
 (htell : ∀ W T k, I W T → k < l.length → k ∉ T → (∀ j ∈ FK.cO l k, j ∈ T) → Calls Tryz.prog F (#[.int .i64 k] ++ cap) W fun e W' =>
  e = .returned (.tuple #[]) ∧ I W' (T ++ [k]) ∧ W.heap.size ≤ W'.heap.size ∧ ∀ b, w.heap.size ≤ b → b < W.heap.size → W'.heap[b]? = W.heap[b]?) :
 Calls Tryz.prog 139 #[.slice A l.length c, .func (.func F) #[] cap] w (vM I l) := by
 have HN := Lib.hid (hI w [] h0).1
 have H0 := Lib.hid h0
 have HI := Lib.hid hI
 have HS := Lib.hid hstab
 have HT := Lib.hid htell
 have HV := Lib.hid hv
 have HP := Lib.hid hpos
 clear h0 hI hstab htell hv hpos
 have hmk : ∀ W : World, (Instr.makeSlice 310 (.int .i64 (l.length : Int)) (.int .i64 (l.length : Int))).run Tryz.prog W = .ok (.slice (some ⟨W.heap.size, 0, none⟩) l.length l.length) (W.alloc (.cells (cy l.length (cp l 0 0)) 87)) := fun W => by
  rw [← ml]
  exact run_make_row' (P := Tryz.prog) 310 87 (.int .u64 0) 8 Tryz.underlying310 (by kernel_rfl) rfl .i64 .i64 l.length (by omega) (by omega) W
 obtain ⟨left, hleft0⟩ : ∃ x, x = 2 ^ l.length - 1 := ⟨_, rfl⟩
 have hleft : IntKind.u64.wrap (IntKind.u64.wrap (2 ^ l.length) - 1) = (left : Int) := by rw [n7 hl, hleft0]
 have HO0 : Hid (FK.Ordering l left []) := by rw [hleft0]; exact .start l
 clear hleft0
 obtain ⟨T, HT0⟩ : ∃ T : List Nat, Hid (T = []) := ⟨_, rfl⟩
 rw [← HT0.out] at HO0 H0
 go_enter Tryz.func139, Tryz.ntmps139
 go_wp2
 refine wp_scope_jumps 0 (BA w A c l F cap I) (fun a _ => (intOf (a.tmps.getD 4 undef)).toNat) rfl ?_ ?_
 · go_wp2
   go_loopw [21] (fun i wr => ∃ k : Nat, k ≤ l.length ∧ i = .int .i64 k ∧ Blk wr w.heap.size 87 (cy l.length (cp l k 0)) ∧ Below w.heap.size w wr) (fun i _ => l.length - (intOf i).toNat)
   case atStart => exact ⟨0, by omega, rfl, Blk.made _ _ _, (Below.refl _ _).alloc (Nat.le_refl _) _⟩
   case round =>
    obtain ⟨k, hk, rfl, hblk, hsame⟩ := hrel
    have hlt' := hblk.lt
    by_cases hlt : k < l.length
    · obtain ⟨h1, h2, h3⟩ := HN.out
      obtain ⟨b, off, rfl, hbB, hcell⟩ := h3 (by omega)
      have hnode := (hcell k l[k] (by simp [hlt])).keep (hsame.to_same.mono hB) hbB
      obtain ⟨c0, c1, c2, c3, c4, c5, ⟨A6, n6, c6, hi⟩, hr⟩ := hnode
      have HI6 := Lib.hid hi
      have HBLK := Lib.hid hblk
      have HSAME := Lib.hid hsame
      clear hcell h3 hr hi hblk hsame
      go_wp2
      obtain ⟨wo, rfl⟩ : ∃ wo : World, wo = wr := ⟨_, rfl⟩
      go_loopw [29] (fun i ws => ∃ m : Nat, m ≤ l[k].after.length ∧ i = .int .i64 m ∧ Blk ws w.heap.size 87 (cy l.length (cp l k m)) ∧ Below w.heap.size w ws) (fun i _ => l[k].after.length - (intOf i).toNat)
      case atStart => exact ⟨0, by omega, rfl, HBLK.out.same (B := wo.heap.size) (fun x hx => Below.heap_alloc _ _ _ hx) hlt', HSAME.out.alloc (by omega) _⟩
      case round =>
       obtain ⟨m, hm, rfl, hblk, hsame⟩ := hrel
       have haft : FK.cO l k = l[k].after.map Int.toNat := FK.tu (by simp [hlt])
       by_cases hmlt : m < l[k].after.length
       · have hback : Same B wo wr := fun x hx => (hsame.block x (by omega)).trans (HSAME.out.block x (by omega)).symm
         obtain ⟨b6, o6, hA6, hb6, hc6⟩ := (HI6.out.keep hback).cells (by omega)
         have hxm := hc6 m l[k].after[m] (by simp [hmlt])
         have hx0 : 0 ≤ l[k].after[m] := HP.out l[k] (List.getElem_mem _) _ (List.getElem_mem _)
         have hx1 := HV.out k l[k].after[m].toNat (by rw [haft]; exact List.mem_map_of_mem (List.getElem_mem _))
         obtain ⟨xn, hxn⟩ : ∃ xn : Nat, l[k].after[m] = (xn : Int) := ⟨l[k].after[m].toNat, by omega⟩
         have hget : (FK.cO l k)[m]? = some xn := by rw [haft, List.getElem?_map, List.getElem?_eq_getElem hmlt, hxn]; simp
         rw [hxn] at hxm hx0 hx1
         simp only [Int.toNat_natCast] at hx1
         have hlt1 : cp l k m k < 18446744073709551616 := Nat.lt_of_lt_of_le (iH (n := 12) fun i x hx => by have := HV.out i x hx; omega) (by decide)
         have hlt2 : 2 ^ xn < 18446744073709551616 := Nat.lt_of_lt_of_le (Nat.pow_lt_pow_right (n := 12) (by omega) (by omega)) (by decide)
         have hcell : wr.cell? ⟨w.heap.size, k, none⟩ = some (.int .u64 (cp l k m k : Nat)) := by rw [hblk.cell]; exact eG hlt
         have hfree : wr.frozen? ⟨w.heap.size, k, none⟩ = false := hblk.free k
         have hsh : IntKind.u64.wrap (2 ^ xn) = 2 ^ xn := iV (by omega)
         have hor : bits BinOp.or IntKind.u64 ((cp l k m k : Nat) : Int) (2 ^ xn) = ((cp l k (m + 1) k : Nat) : Int) := by
          have := bits_or_u64_nat (cp l k m k) (2 ^ xn) hlt1 hlt2
          rw [n0 hget, Nat.one_shiftLeft, ← this]; simp
         have HB := Lib.hid hblk
         have HS2 := Lib.hid hsame
         have hsz := hblk.lt
         have hal := HI6.out.len
         have hac := HI6.out.cap
         subst hA6
         clear haft hback hc6 hxn hget hlt1 hlt2 hblk hsame
         go_wp2
         go_region
         go_wp2
         go_roundw
         case rel => exact ⟨m + 1, by omega, by go_num, mo HB.out fun x hx => mm hx, (by repeat (first | exact HS2.out | refine below_drewN ?_ _ | refine Below.drew ?_ | refine Below.alloc ?_ (by first | omega | (simp; done) | (simp; omega)) _ | refine Below.setCell ?_ (by first | omega | (simp; done) | (simp; omega)) _))⟩
         case measure => simp [intOf]; omega
       · have HB := Lib.hid hblk
         have HS2 := Lib.hid hsame
         have hsz := hblk.lt
         have HN2 := Lib.hid (n4 (l := l) (i := k) (m := m) (by rw [haft]; simp; omega))
         clear haft hblk hsame
         go_wp2
         go_roundw
         case rel => exact ⟨k + 1, by omega, by go_num, by rw [← HN2.out]; exact HB.out, HS2.out⟩
         case measure => simp [intOf]; omega
    · obtain rfl : k = l.length := by omega
      have hi := HS.out w wr T H0.out hsame
      have ho := HO0.out
      go_wp2
      go_step3
      go_wp2
      have hl4 := ge ho hl
      have HI1 := Lib.hid hi
      have HO := Lib.hid ho
      have HB := Lib.hid hblk
      have hsz := hblk.lt
      clear hi ho hblk
      go_loop [4, 10] (fun s t => ∃ wv : Nat, s = .int .u64 left ∧ t = .int .u64 wv ∧ Asked l left wv ∧ wv < 4096) (fun _ t => (intOf t).toNat)
      case atStart => exact ⟨left, rfl, rfl, .start _ _, hl4⟩
      case round =>
       obtain ⟨wv, rfl, rfl, hask, hw4⟩ := hrel
       have HASK := Lib.hid hask
       clear hask
       by_cases hz : wv = 0
       · have hne : ((wv : Int) != 0) = false := by simp [hz]
         have HZ := Lib.hid hz
         clear hz
         go_wp2
         simp only [Exit.jump]
         go_ret
         exact ⟨left, T, rfl, HI1.out, HO.out, fun i hi => (HASK.out.2 i hi).resolve_left (by rw [HZ.out]; simp)⟩
       · obtain ⟨t1, t2, t3⟩ := jQ wv (by omega) hz
         have HTZ := Lib.hid (jw wv (by omega) hz wr (HI.out _ _ HI1.out).2.1)
         have hne : ((wv : Int) != 0) = true := by simp; omega
         generalize Lib.ctz 64 wv = t at HTZ t1 t2 t3
         have htl : left.testBit t = true := HASK.out.1 t t1
         have htn : t < l.length := ((HO.out.bits t).1 htl).1
         have hnf : cp l l.length 0 t = FK.fj (FK.cO l t) := by simp [cp, htn]
         obtain ⟨nf, hnfe⟩ : ∃ nf, nf = cp l l.length 0 t := ⟨_, rfl⟩
         have hnf4 : nf < 4096 := by rw [hnfe]; exact iH (n := 12) fun i x hx => by have := HV.out i x hx; omega
         have hcell : wr.cell? ⟨w.heap.size, t, none⟩ = some (.int .u64 (nf : Nat)) := by rw [HB.out.cell, hnfe]; exact eG htn
         have hzero := FK.fX (FK.cO l t) left
         rw [← hnf, ← hnfe] at hzero
         have HZERO := Lib.hid hzero
         have T1 := Lib.hid t1
         have T2 := Lib.hid t2
         have TL := Lib.hid htl
         have HZ := Lib.hid hz
         by_cases hb : nf &&& left = 0
         · have hand : bits BinOp.and IntKind.u64 (nf : Int) (left : Int) = 0 := by rw [eV _ _ hnf4 hl4, hb]; rfl
           have hsh : IntKind.u64.wrap (2 ^ t) = 2 ^ t := iV t3
           have handn : bits BinOp.andNot IntKind.u64 (left : Int) (2 ^ t) = ((clr left t : Nat) : Int) := by
            have hp : 2 ^ t < 2 ^ 64 := Nat.pow_lt_pow_right (by omega) t3
            have := u64_andNot_nat left (2 ^ t) (by omega) (by simpa using hp)
            simpa [clr] using this
           have hfree : ∀ k ∈ FK.cO l t, left.testBit k = false := hzero.1 hb
           have htold : ∀ j ∈ FK.cO l t, j ∈ T := fun j hj => Classical.byContradiction fun hn => by
            have h1 := (HO.out.bits j).2 ⟨HV.out t j hj, hn⟩
            rw [hfree j hj] at h1; cases h1
           have HTELL := Lib.hid (HT.out wr T t HI1.out htn ((HO.out.bits t).1 htl).2 htold)
           have HFREE := Lib.hid hfree
           clear hnf hnfe hzero t1 t2 htl hz hb hfree htold
           go_wp2_with (go_at_call 141; refine HTZ.out.mono ?_; rintro e w2 ⟨rfl, rfl⟩)
           refine HTELL.out.mono ?_
           rintro e w3 ⟨rfl, hi3, hsz3, hsame3⟩
           have HI3 := Lib.hid hi3
           have HSAME3 := Lib.hid hsame3
           clear hi3 hsame3
           go_wp2
           go_step3
           exact ⟨rfl, ⟨clr left t, T ++ [t], _, _, _, _, _, _, _, _, _, _, _, _, _, _, _, _, _, _, _, _, _, _, _, _, _, _, _, _, _, _, _, _, _, _, _, _, _, _, _, _, _, _, _, _, _, _, _, _, _, _, _, _, _, _, _, _, _, _, _, _, _, _, _, rfl, HI3.out, HO.out.tell TL.out HFREE.out (gf t3 (by omega)), (HSAME3.out _ (Nat.le_refl _) hsz).trans HB.out⟩⟩
         · have hand : bits BinOp.and IntKind.u64 (nf : Int) (left : Int) = ((nf &&& left : Nat) : Int) := eV _ _ hnf4 hl4
           have hne2 : (((nf &&& left : Nat) : Int) == 0) = false := by simp; omega
           have hw : bits BinOp.and IntKind.u64 (wv : Int) ((wv : Int) - 1) = ((wv &&& (wv - 1) : Nat) : Int) := by
            have := eV wv (wv - 1) hw4 (by omega)
            rwa [show ((wv - 1 : Nat) : Int) = (wv : Int) - 1 by omega] at this
           have hdec := kc hz
           have hex : ∃ k ∈ FK.cO l t, left.testBit k = true := Classical.byContradiction fun hn => hb (hzero.2 fun k hk => by
            cases hx : left.testBit k with
            | false => rfl
            | true => exact absurd ⟨k, hk, hx⟩ hn)
           have HEX := Lib.hid hex
           have hz1 : 1 ≤ wv := by omega
           clear hnf hnfe hzero t1 t2 htl hz hb hex
           go_wp2_with (go_at_call 141; refine HTZ.out.mono ?_; rintro e w2 ⟨rfl, rfl⟩)
           go_round
           case rel => exact ⟨wv &&& (wv - 1), rfl, rfl, HASK.out.next T1.out T2.out HEX.out, by omega⟩
           case measure => simp [intOf]; omega
 · rintro a' w' ⟨left, T, u2, u3, u6, u7, u8, u9, u10, u11, u12, u13, u14, u15, u16, u17, u18, u19, u20, u21, u22, u23, u24, u25, u26, u27, u28, u29, u30, u31, u32, u33, u34, u35, u36, u37, u38, u39, u40, u41, u42, u43, u44, u45, u46, u47, u48, u49, u50, u51, u52, u53, u54, u55, u56, u57, u58, u59, u60, u61, u62, u63, u64, u65, u66, rfl, hi, ho, hblk⟩
   go_wp2
   have hl4 := ge ho hl
   have HI1 := Lib.hid hi
   have HO := Lib.hid ho
   have HB := Lib.hid hblk
   have hsz := hblk.lt
   clear hi ho hblk
   go_loop [4, 10] (fun s t => ∃ wv : Nat, s = .int .u64 left ∧ t = .int .u64 wv ∧ Asked l left wv ∧ wv < 4096) (fun _ t => (intOf t).toNat)
   case atStart => exact ⟨left, rfl, rfl, .start _ _, hl4⟩
   case round =>
    obtain ⟨wv, rfl, rfl, hask, hw4⟩ := hrel
    have HASK := Lib.hid hask
    clear hask
    by_cases hz : wv = 0
    · have hne : ((wv : Int) != 0) = false := by simp [hz]
      have HZ := Lib.hid hz
      clear hz
      go_wp2
      simp only [Exit.jump]
      go_ret
      exact ⟨left, T, rfl, HI1.out, HO.out, fun i hi => (HASK.out.2 i hi).resolve_left (by rw [HZ.out]; simp)⟩
    · obtain ⟨t1, t2, t3⟩ := jQ wv (by omega) hz
      have HTZ := Lib.hid (jw wv (by omega) hz w' (HI.out _ _ HI1.out).2.1)
      have hne : ((wv : Int) != 0) = true := by simp; omega
      generalize Lib.ctz 64 wv = t at HTZ t1 t2 t3
      have htl : left.testBit t = true := HASK.out.1 t t1
      have htn : t < l.length := ((HO.out.bits t).1 htl).1
      have hnf : cp l l.length 0 t = FK.fj (FK.cO l t) := by simp [cp, htn]
      obtain ⟨nf, hnfe⟩ : ∃ nf, nf = cp l l.length 0 t := ⟨_, rfl⟩
      have hnf4 : nf < 4096 := by rw [hnfe]; exact iH (n := 12) fun i x hx => by have := HV.out i x hx; omega
      have hcell : w'.cell? ⟨w.heap.size, t, none⟩ = some (.int .u64 (nf : Nat)) := by rw [HB.out.cell, hnfe]; exact eG htn
      have hzero := FK.fX (FK.cO l t) left
      rw [← hnf, ← hnfe] at hzero
      have HZERO := Lib.hid hzero
      have T1 := Lib.hid t1
      have T2 := Lib.hid t2
      have TL := Lib.hid htl
      have HZ := Lib.hid hz
      by_cases hb : nf &&& left = 0
      · have hand : bits BinOp.and IntKind.u64 (nf : Int) (left : Int) = 0 := by rw [eV _ _ hnf4 hl4, hb]; rfl
        have hsh : IntKind.u64.wrap (2 ^ t) = 2 ^ t := iV t3
        have handn : bits BinOp.andNot IntKind.u64 (left : Int) (2 ^ t) = ((clr left t : Nat) : Int) := by
         have hp : 2 ^ t < 2 ^ 64 := Nat.pow_lt_pow_right (by omega) t3
         have := u64_andNot_nat left (2 ^ t) (by omega) (by simpa using hp)
         simpa [clr] using this
        have hfree : ∀ k ∈ FK.cO l t, left.testBit k = false := hzero.1 hb
        have htold : ∀ j ∈ FK.cO l t, j ∈ T := fun j hj => Classical.byContradiction fun hn => by
         have h1 := (HO.out.bits j).2 ⟨HV.out t j hj, hn⟩
         rw [hfree j hj] at h1; cases h1
        have HTELL := Lib.hid (HT.out w' T t HI1.out htn ((HO.out.bits t).1 htl).2 htold)
        have HFREE := Lib.hid hfree
        clear hnf hnfe hzero t1 t2 htl hz hb hfree htold
        go_wp2_with (go_at_call 141; refine HTZ.out.mono ?_; rintro e w2 ⟨rfl, rfl⟩)
        refine HTELL.out.mono ?_
        rintro e w3 ⟨rfl, hi3, hsz3, hsame3⟩
        have HI3 := Lib.hid hi3
        have HSAME3 := Lib.hid hsame3
        clear hi3 hsame3
        go_wp2
        go_step3
        exact ⟨rfl, ⟨clr left t, T ++ [t], _, _, _, _, _, _, _, _, _, _, _, _, _, _, _, _, _, _, _, _, _, _, _, _, _, _, _, _, _, _, _, _, _, _, _, _, _, _, _, _, _, _, _, _, _, _, _, _, _, _, _, _, _, _, _, _, _, _, _, _, _, _, _, rfl, HI3.out, HO.out.tell TL.out HFREE.out (gf t3 (by omega)), (HSAME3.out _ (Nat.le_refl _) hsz).trans HB.out⟩, by have := clr_lt t3 (by omega) TL.out; simpa [intOf] using this⟩
      · have hand : bits BinOp.and IntKind.u64 (nf : Int) (left : Int) = ((nf &&& left : Nat) : Int) := eV _ _ hnf4 hl4
        have hne2 : (((nf &&& left : Nat) : Int) == 0) = false := by simp; omega
        have hw : bits BinOp.and IntKind.u64 (wv : Int) ((wv : Int) - 1) = ((wv &&& (wv - 1) : Nat) : Int) := by
         have := eV wv (wv - 1) hw4 (by omega)
         rwa [show ((wv - 1 : Nat) : Int) = (wv : Int) - 1 by omega] at this
        have hdec := kc hz
        have hex : ∃ k ∈ FK.cO l t, left.testBit k = true := Classical.byContradiction fun hn => hb (hzero.2 fun k hk => by
         cases hx : left.testBit k with
         | false => rfl
         | true => exact absurd ⟨k, hk, hx⟩ hn)
        have HEX := Lib.hid hex
        have hz1 : 1 ≤ wv := by omega
        clear hnf hnfe hzero t1 t2 htl hz hb hex
        go_wp2_with (go_at_call 141; refine HTZ.out.mono ?_; rintro e w2 ⟨rfl, rfl⟩)
        go_round
        case rel => exact ⟨wv &&& (wv - 1), rfl, rfl, HASK.out.next T1.out T2.out HEX.out, by omega⟩
        case measure => simp [intOf]; omega
end Go.Proofs.YtmeegfamopaljaaGreatDoor

namespace Go.Proofs.YtmeegfamopaljaaGreatDoor
open Go Go.RowKit Go.Deep
theorem ry {w : World} {base : Nat} {e : TypeId} {size : Nat} {v : Value} {n : Nat} {xs : List Value} (h : w.ownsRow base e size v n xs) : ∃ A c, v = .slice A n c ∧ (A = none → n = 0 ∧ c = 0) ∧ n ≤ c ∧ c ≤ maxLen := by
 rcases h.2 with ⟨rfl, rfl⟩ | ⟨g, cap, cur, rfl, _, _, h1, h2, _⟩
 · exact ⟨none, 0, rfl, fun _ => ⟨rfl, rfl⟩, Nat.le_refl _, Nat.zero_le _⟩
 · exact ⟨_, cap, rfl, (fun h => by cases h), h1, h2⟩
theorem yp {w : World} {base : Nat} {e : TypeId} {size : Nat} {v : Value} {n : Nat} {xs : List Value} (h : w.ownsRow base e size v n xs) {k : Nat} (hk : v.ownBlock = some k) : base ≤ k ∧ k < w.heap.size := h.lt k hk
section
variable {P : Program} (w : World)
theorem run_app_nothing (base : Nat) (t ty e : TypeId) (i : TypeInfo) (size : Nat) (ht : P.underlying t = some (.slice e)) (hi : P.info? e = some i)
 (v : Value) (n : Nat) (xs : List Value) (hown : w.ownsRow base e size v n xs) (c : Nat) : (Builtin.append_ #[t, t] ty #[v, .slice none 0 c]).run P w = .ok v w := by
 rcases hown.2 with ⟨rfl, rfl⟩ | ⟨g, cap, cur, rfl, _, _, hnc, _⟩
 · simp [Builtin.append_, run_underlying ht, sizeOf, typeInfo, hi, Builtin.lenOf, Builtin.firstCells]
 · simp [Builtin.append_, run_underlying ht, sizeOf, typeInfo, hi, Builtin.lenOf, Builtin.firstCells, hnc, storeCells]
end
end Go.Proofs.YtmeegfamopaljaaGreatDoor

namespace Go.Proofs.YtmeegfamopaljaaGreatDoor
open Go Go.RowKit Go.Deep
def eE (b o : Nat) : Array Value := #[.pointer (some ⟨b, o, none⟩), .pointer (some ⟨b, o + 1, none⟩), .pointer (some ⟨b, o + 2, none⟩), .pointer (some ⟨b, o + 3, none⟩), .pointer (some ⟨b, o + 4, none⟩), .pointer (some ⟨b, o + 5, none⟩)]
theorem put6 {w : World} {g : Nat} {t : TypeId} {x0 x1 x2 x3 x4 x5 : Value} (h : Blk w g t #[x0, x1, x2, x3, x4, x5]) (u0 u1 u2 u3 u4 u5 : Value) :
 Blk ((((((w.setCell ⟨g, 0, none⟩ u0).setCell ⟨g, 1, none⟩ u1).setCell ⟨g, 2, none⟩ u2).setCell ⟨g, 3, none⟩ u3).setCell ⟨g, 4, none⟩ u4).setCell ⟨g, 5, none⟩ u5) g t #[u0, u1, u2, u3, u4, u5] := by
 have h := h.put 0 u0
 have h := h.put 1 u1
 have h := h.put 2 u2
 have h := h.put 3 u3
 have h := h.put 4 u4
 have h := h.put 5 u5
 simpa using h
set_option maxRecDepth 100000 in
set_option maxHeartbeats 1000000 in
theorem qQ (w : World) (b : Nat) :
 Calls Tryz.prog 143 #[.pointer (some ⟨b, 0, none⟩)] w fun e w' => e = .returned (.agg (eE b 0)) ∧ Below w.heap.size w w' := by
 go_enter Tryz.func143, Tryz.ntmps143
 go_wp2
 go_still_tail 19, (by kernel_rfl)
 change wpList _ _ _ _ _ ((w.alloc (.cells #[.pointer none, .pointer none, .pointer none, .pointer none, .pointer none, .pointer none] 220)).drew)
 have hblk : Blk ((w.alloc (.cells #[.pointer none, .pointer none, .pointer none, .pointer none, .pointer none, .pointer none] 220)).drew) w.heap.size 220 #[.pointer none, .pointer none, .pointer none, .pointer none, .pointer none, .pointer none] := Blk.made w _ _
 have hb2 : Below w.heap.size w ((w.alloc (.cells #[.pointer none, .pointer none, .pointer none, .pointer none, .pointer none, .pointer none] 220)).drew) := ((Below.refl _ _).alloc (Nat.le_refl _) _).drew
 obtain ⟨w2, hw2⟩ : ∃ w2, w2 = ((w.alloc (.cells #[.pointer none, .pointer none, .pointer none, .pointer none, .pointer none, .pointer none] 220)).drew) := ⟨_, rfl⟩
 rw [← hw2] at hblk hb2 ⊢
 clear hw2
 have c0 := hblk.cell 0
 have c1 := hblk.cell 1
 have c2 := hblk.cell 2
 have c3 := hblk.cell 3
 have c4 := hblk.cell 4
 have c5 := hblk.cell 5
 have f0 := hblk.free 0
 have f1 := hblk.free 1
 have f2 := hblk.free 2
 have f3 := hblk.free 3
 have f4 := hblk.free 4
 have f5 := hblk.free 5
 simp only [List.getElem?_toArray, List.getElem?_cons_zero, List.getElem?_cons_succ] at c0 c1 c2 c3 c4 c5
 have HB := Lib.hid hblk
 clear hblk
 go_wp2
 have hbF : Below w.heap.size w ((((((w2.setCell ⟨w.heap.size, 0, none⟩ (.pointer (some ⟨b, 0, none⟩))).setCell ⟨w.heap.size, 1, none⟩ (.pointer (some ⟨b, 1, none⟩))).setCell ⟨w.heap.size, 2, none⟩ (.pointer (some ⟨b, 2, none⟩))).setCell ⟨w.heap.size, 3, none⟩ (.pointer (some ⟨b, 3, none⟩))).setCell ⟨w.heap.size, 4, none⟩ (.pointer (some ⟨b, 4, none⟩))).setCell ⟨w.heap.size, 5, none⟩ (.pointer (some ⟨b, 5, none⟩))) := (((((hb2.setCell (by simp) _).setCell (by simp) _).setCell (by simp) _).setCell (by simp) _).setCell (by simp) _).setCell (by simp) _
 have hfin : Blk (((((((w2.setCell ⟨w.heap.size, 0, none⟩ (.pointer (some ⟨b, 0, none⟩))).setCell ⟨w.heap.size, 1, none⟩ (.pointer (some ⟨b, 1, none⟩))).setCell ⟨w.heap.size, 2, none⟩ (.pointer (some ⟨b, 2, none⟩))).setCell ⟨w.heap.size, 3, none⟩ (.pointer (some ⟨b, 3, none⟩))).setCell ⟨w.heap.size, 4, none⟩ (.pointer (some ⟨b, 4, none⟩))).setCell ⟨w.heap.size, 5, none⟩ (.pointer (some ⟨b, 5, none⟩)))) w.heap.size 220 (eE b 0) :=
  put6 HB.out _ _ _ _ _ _
 obtain ⟨w3, hw3⟩ : ∃ w3, w3 = ((((((w2.setCell ⟨w.heap.size, 0, none⟩ (.pointer (some ⟨b, 0, none⟩))).setCell ⟨w.heap.size, 1, none⟩ (.pointer (some ⟨b, 1, none⟩))).setCell ⟨w.heap.size, 2, none⟩ (.pointer (some ⟨b, 2, none⟩))).setCell ⟨w.heap.size, 3, none⟩ (.pointer (some ⟨b, 3, none⟩))).setCell ⟨w.heap.size, 4, none⟩ (.pointer (some ⟨b, 4, none⟩))).setCell ⟨w.heap.size, 5, none⟩ (.pointer (some ⟨b, 5, none⟩))) := ⟨_, rfl⟩
 rw [← hw3] at hfin hbF ⊢
 clear hw3 c0 c1 c2 c3 c4 c5 f0 f1 f2 f3 f4 f5 HB hb2
 have d0 := hfin.cell 0
 have d1 := hfin.cell 1
 have d2 := hfin.cell 2
 have d3 := hfin.cell 3
 have d4 := hfin.cell 4
 have d5 := hfin.cell 5
 simp only [eE, List.getElem?_toArray, List.getElem?_cons_zero, List.getElem?_cons_succ] at d0 d1 d2 d3 d4 d5
 refine bodyPost_ret (v := .agg (eE b 0)) (by simp [results, Tryz.results143, go_sem, d0, d1, d2, d3, d4, d5, eE]) rfl ?_
 exact ⟨rfl, hbF⟩
theorem flat_len {α : Type} (f : α → List UInt8) (c : Nat) : ∀ (l : List α), (∀ x ∈ l, (f x).length ≤ c) → (l.flatMap f).length ≤ c * l.length
 | [], _ => by simp
 | x :: l, h => by
  have := flat_len f c l fun y hy => h y (by simp [hy])
  have h0 := h x (by simp)
  simp only [List.flatMap_cons, List.length_append, List.length_cons, Nat.mul_add]; omega
theorem sX {n : FK.Node} {len : Nat} (hlen : len ≤ 12) (hn : FK.cf n) (he : FK.EdgesOk len (-1) n.after) : (FK.cU n).length ≤ 57 := by
 obtain ⟨a1, a2, ⟨b1, b2⟩, ⟨c1, c2⟩, ⟨d1, d2⟩, ⟨e1, e2⟩, f1, f2⟩ := hn
 have hb := he.bounds
 have hal : n.after.length ≤ 12 := by
  rcases he.length_le (by omega) with h | h
  · omega
  · rw [h]; simp
 have h := flat_len (fun k : Int => FK.bz k.toNat) 3 n.after fun k hk => FK.ci (by have := hb k hk; omega)
 have g1 := FK.ci (n := n.budget.toNat) (by omega)
 have g2 := FK.ci (n := n.close.toNat) (by omega)
 have g3 := FK.ci (n := n.beat.toNat) (by omega)
 have g4 := FK.ci (n := n.base.toNat) (by omega)
 have g5 := FK.ci (n := n.cap.toNat) (by omega)
 have g6 := FK.ci (n := n.jitter.toNat) (by omega)
 have g7 := FK.ci (n := n.after.length) (by omega)
 simp only [FK.cU, List.length_append]
 omega
def kE (n : FK.Node) : List Int := [n.budget, n.close, n.beat, n.base, n.cap, n.jitter]
theorem lj (n : FK.Node) : FK.cU n = (kE n).flatMap (fun k => FK.bz k.toNat) ++ FK.bz n.after.length ++ n.after.flatMap fun k => FK.bz k.toNat := by
 simp [FK.cU, kE]
end Go.Proofs.YtmeegfamopaljaaGreatDoor

namespace Go.SL
open Go Go.RowKit Go.Proofs.YtmeegfamopaljaaGreatDoor
section
variable {P : Program} {E : Env} {n : Nat} {D : List Deferred} {ts : List (Nat × Value)} {l : List HP} {ops : Array Oper} {Q : Exit → Act → World → Prop} {rest : List Oper} {i : Nat} {ty : TypeId} {pos : String} {af : Array Edge} {g : Option (Nat × Bool)}
def Gives (P : Program) (G : Env → Prop) (f : FuncId) (args : Array Value) (φ : World → Prop) (R : Value → List HP → Prop) : Prop :=
 ∀ E w, G E → E.is w → φ w → Calls P f args w fun e w' => ∃ v m, e = .returned v ∧ R v m ∧ Holds E w' (m ++ [old E w])
variable {G : Env → Prop}
theorem Gives.below {f : FuncId} {args : Array Value} {φ : World → Prop} {R : Value → Prop} (h : ∀ E w, G E → E.is w → φ w → Calls P f args w fun e w' => ∃ v, e = .returned v ∧ R v ∧ Below w.heap.size w w') : Gives P G f args φ fun v m => R v ∧ m = [] := fun E w hE hw hφ =>
 (h E w hE hw hφ).mono fun _e _w' ⟨v, he, hR, hb⟩ => ⟨v, [], he, ⟨hR, rfl⟩, (Holds.start hw).below hb⟩
theorem du {f : FuncId} {args : Array Value} {φ : World → Prop} {v : Value} (h : ∀ E w, G E → E.is w → φ w → Calls P f args w fun e w' => e = .returned v ∧ Below w.heap.size w w') : Gives P G f args φ fun u m => u = v ∧ m = [] :=
 Gives.below fun E w hE hw hφ => (h E w hE hw hφ).mono fun _ _ ⟨he, hb⟩ => ⟨v, he, rfl, hb⟩
theorem dC {f : FuncId} {xs : List Operand} {at_ : Array TypeId} {args : List Value} {φ : World → Prop} {R : Value → List HP → Prop} {K : Act → World → Prop} (hi : Nat.blt i n = true) (hb : eA P f = true) (hx : ou ts xs = some args) (hE : G E)
 (hs : Gives P G f args.toArray φ R) (hφ : ∀ w, Holds E w l → φ w) (h : ∀ v m, R v m → At E n D ((i, v) :: ts) (m ++ l) K) :
 At E n D ts l (fun a w => (Oper.mk (some i) (.call { callee := .value (.func f), args := xs.toArray, argTypes := at_ }) ty pos af g).wp P a w K Q) := fun a w ft hw => by
 have := cF ft.knows hx
 have hr : (execOp a.eval (Oper.mk (some i) (.call { callee := .value (.func f), args := xs.toArray, argTypes := at_ }) ty pos af g)).run P w = .ok (.enter f args.toArray) w := by
  simp [execOp, resolve, Deferred.ofValue, Act.eval, invoke, this, cN hb]
 show (Oper.mk (some i) (.call { callee := .value (.func f), args := xs.toArray, argTypes := at_ }) ty pos af g).wp P a w K Q
 unfold Oper.wp
 rw [hr]
 refine (hs E w hE hw.is (hφ w hw)).mono fun e w' ⟨v, m, he, hR, hh⟩ => ?_
 subst he
 exact h v m hR _ w' (ft.put i (Nat.le_of_ble_eq_true hi) v) (Holds.later hw hh)
theorem Gives.body {f : FuncId} {fn : Func} {c : Code} {args : List Value} {φ : World → Prop} {R : Value → List HP → Prop} (hf : P.funcs[f]? = some fn) (hb : fn.body = some c) (hn : Nat.ble args.length fn.ntmps = true)
 (h : ∀ E w0, G E → E.is w0 → φ w0 → At E fn.ntmps [] (dU 0 args) [old E w0] (c.wp P (Ends P fn E [old E w0] R))) : Gives P G f args.toArray φ R := fun E w hE hw hφ => by
 refine calls_of_wp hf hb (h E w hE hw hφ _ _ ⟨?_, rfl, ?_⟩ (Holds.start hw))
 · have := Nat.le_of_ble_eq_true hn
   simp; omega
 · intro i v hi
   obtain ⟨_, h2⟩ := dN args 0 i v hi
   rw [Nat.sub_zero] at h2
   have hlt : i < args.length := (List.getElem?_eq_some_iff.1 h2).1
   simp [Array.getElem?_append, hlt, (List.getElem?_eq_some_iff.1 h2).2]
theorem q8 {w0 : World} {r : List HP} {φ : World → Prop} (s : Sel (old E w0) l r) (h0 : E.is w0) (h : ∀ w, Below w0.heap.size w0 w → φ w) : ∀ w, Holds E w l → φ w := fun w hw => h w (hw.old s h0)
theorem vJ {w0 : World} {r : List HP} {b o : Nat} {v : Value} (s : Sel (old E w0) l r) (h0 : E.is w0) (hv : w0.cell? ⟨b, o, none⟩ = some v) : ∀ w, Holds E w l → bI ⟨b, o, none⟩ v w :=
 q8 s h0 fun w hb => by
  have := World.block_lt_of_cell? _ _ hv
  exact (hb.cell this).trans hv
theorem ym {w0 : World} {r : List HP} {b o : Nat} {vs : List Value} (s : Sel (old E w0) l r) (h0 : E.is w0) (hv : ∀ j v, vs[j]? = some v → w0.cell? ⟨b, o + j, none⟩ = some v) : ∀ w, Holds E w l → gK b o vs w :=
 q8 s h0 fun w hb j v hj => by
  have := World.block_lt_of_cell? _ _ (hv j v hj)
  exact (hb.cell this).trans (hv j v hj)
theorem Gives.does {f : FuncId} {args : Array Value} {R : Value → List HP → Prop} (h : Gives P G f args (fun _ => True) R) : Does P G f args [] R := fun E w _fr hE hw =>
 (h E w hE hw.is trivial).mono fun _e _w' ⟨v, m, he, hR, hh⟩ => ⟨v, m, he, hR, Holds.later hw hh⟩
end
end Go.SL
namespace Go.Proofs.YtmeegfamopaljaaGreatDoor
open Go Go.RowKit Go.SL
variable {G : Env → Prop}
abbrev bM (v : Value) (l : List UInt8) : HP := row 5 1 v l.length (bO l)
theorem mC (b : Nat) : Does Tryz.prog G 143 #[.pointer (some ⟨b, 0, none⟩)] [] fun v m => v = .agg (eE b 0) ∧ m = [] :=
 (du (φ := fun _ => True) fun _ w _ _ _ => qQ w b).does
theorem sY {f : FuncId} {args : Array Value} {v : Value} {l l' : List UInt8} (h : ∀ w, iJ w 0 v l → Calls Tryz.prog f args w (vN w 0 v l')) : Does Tryz.prog G f args [bM v l] fun v' m => m = [bM v' l'] := fun E w fr _ hw => by
 refine (h w (hw.row .head)).mono fun e w' ⟨v', he, hown, hg, hm⟩ => ⟨v', _, he, rfl, ?_⟩
 exact jK hw hg hown hm
theorem ep (v : Value) (l : List UInt8) (m : Nat) (hm : m < 18446744073709551616) (hl : l.length ≤ 1099511627776) : Does Tryz.prog G 142 #[v, .int .u64 m] [bM v l] fun v' r => r = [bM v' (l ++ FK.bz m)] :=
 sY fun w ho => lu w 0 v l m hm ho hl (Nat.zero_le _)
theorem fe {E : Env} {l r : List HP} {w0 : World} {B : Nat} {A : Option Addr} {c : Nat} {ns : List FK.Node} (s : Sel (old E w0) l r) (h0 : E.is w0) (h : NodesAt w0 B A c ns) (hB : B ≤ w0.heap.size) : ∀ w, Holds E w l → NodesAt w w.heap.size A c ns :=
 q8 s h0 fun _w hb => (h.keep (hb.to_same.mono hB)).more (Nat.le_trans hB hb.size)
end Go.Proofs.YtmeegfamopaljaaGreatDoor

namespace Go.SL
open Go Go.RowKit
section
variable {P : Program} {G : Env → Prop} {E : Env} {n : Nat} {D : List Deferred} {ts : List (Nat × Value)} {l : List HP} {ops : Array Oper} {Q : Exit → Act → World → Prop} {rest : List Oper} {i : Nat} {ty : TypeId} {pos : String} {af : Array Edge} {g : Option (Nat × Bool)}
theorem av {b : Nat} {t : TypeId} {cs : Array Value} {fz : Nat × Nat} {r : List HP} {vs : List Value} [h : Has b l (.cells cs t fz) r] (hv : cs = vs.toArray) : ∀ w, Holds E w l → gK b 0 vs w := uO fun j v hj => by
 subst hv
 simpa using hj
def DoesX (P : Program) (G : Env → Prop) (f : FuncId) (args : Array Value) (pre : List HP) (R : Value → List HP → Prop) (X : List PanicEntry → List HP → Prop) : Prop :=
 ∀ E w fr, G E → Holds E w (pre ++ fr) → Calls P f args w fun e w' => (∃ v m, e = .returned v ∧ R v m ∧ Holds E w' (m ++ fr)) ∨ ∃ c m, e = .panicked c ∧ X c m ∧ Holds E w' (m ++ fr)
def yc (P : Program) (fn : Func) (E : Env) (fr : List HP) (R : Value → List HP → Prop) (X : List PanicEntry → List HP → Prop) : Exit → Act → World → Prop :=
 bodyPost P fn fun e w' => (∃ v m, e = .returned v ∧ R v m ∧ Holds E w' (m ++ fr)) ∨ ∃ c m, e = .panicked c ∧ X c m ∧ Holds E w' (m ++ fr)
theorem DoesX.body {f : FuncId} {fn : Func} {c : Code} {args : List Value} {pre : List HP} {R : Value → List HP → Prop} {X : List PanicEntry → List HP → Prop} (hf : P.funcs[f]? = some fn) (hb : fn.body = some c) (hn : Nat.ble args.length fn.ntmps = true)
 (h : ∀ E fr, G E → At E fn.ntmps [] (dU 0 args) (pre ++ fr) (c.wp P (yc P fn E fr R X))) : DoesX P G f args.toArray pre R X := by
 intro E w fr hE hw
 refine calls_of_wp hf hb (h E fr hE _ _ ⟨?_, rfl, ?_⟩ hw)
 · have := Nat.le_of_ble_eq_true hn
   simp; omega
 · intro i v hi
   obtain ⟨_, h2⟩ := dN args 0 i v hi
   rw [Nat.sub_zero] at h2
   have hlt : i < args.length := (List.getElem?_eq_some_iff.1 h2).1
   simp [Array.getElem?_append, hlt, (List.getElem?_eq_some_iff.1 h2).2]
theorem lc {fn : Func} {fr : List HP} {R : Value → List HP → Prop} {X : List PanicEntry → List HP → Prop} {e : Exit} (he : e = .ret ∨ e = .normal) (h : At E n D ts l (Ends P fn E fr R e)) : At E n D ts l (yc P fn E fr R X e) := fun a w f hw => by
 have := h a w f hw
 rcases he with rfl | rfl
 · obtain ⟨hd, v, hr, hx⟩ := this
   exact ⟨hd, v, hr, .inl hx⟩
 · obtain ⟨hd, v, hr, hx⟩ := this
   exact ⟨hd, v, hr, .inl hx⟩
theorem fR {fn : Func} {fr : List HP} {R : Value → List HP → Prop} {X : List PanicEntry → List HP → Prop} {c : List PanicEntry} (m : List HP) (hX : X c m) (hm : Ent l (m ++ fr)) : At E n [] ts l (yc P fn E fr R X (.panic c)) := fun _ _ f hw =>
 ⟨f.defers, .inr ⟨c, m, rfl, hX, hw.ent hm⟩⟩
theorem ce {K : Act → World → Prop} {c : List PanicEntry} (h : At E n D ts l (Q (.panic c))) : At E n D ts l (Exit.then K Q (.panic c)) := h
theorem da {id : Nat} {c : List PanicEntry} (h : At E n D ts l (Q (.panic c))) : At E n D ts l (Exit.inBlock id Q (.panic c)) := h
theorem iB {X : Type} {T : X → List (Nat × Value)} {L : X → List HP} {I : X → Prop} {μ : X → Nat} {m : Nat} {c : List PanicEntry} (h : At E n D ts l (Q (.panic c))) : At E n D ts l (rf n D E T L I μ m Q (.panic c)) := h
theorem vo {x : Operand} {t : TypeId} {v : Value} {d : Option Tmp} {K : Act → World → Prop} (hx : ev ts x = some (.iface t v)) (h : At E n D ts l (Q (.panic [{ v := .iface t v, recovered := false }]))) : At E n D ts l (fun a w => (Oper.mk d (.panic x) ty pos af g).wp P a w K Q) := fun a w f hw => by
 have hr : (execOp a.eval (Oper.mk d (.panic x) ty pos af g)).run P w = .halt (.panic (.iface t v)) w := by simp [execOp, f.eval hx, Instr.panic]
 show (Oper.mk d (.panic x) ty pos af g).wp P a w K Q
 unfold Oper.wp
 rw [hr]
 exact h a w f hw
theorem oU {o : Oper} {f : FuncId} {args : Array Value} {pre fr : List HP} {R : Value → List HP → Prop} {X : List PanicEntry → List HP → Prop} {K : Act → World → Prop} {a : Act} {w : World} (hr : (execOp a.eval o).run P w = .ok (.enter f args) w) (hE : G E) (hs : DoesX P G f args pre R X) (hw : Holds E w (pre ++ fr))
 (hk : ∀ v m w', R v m → Holds E w' (m ++ fr) → K (a.put o.dst v) w') (hp : ∀ c m w', X c m → Holds E w' (m ++ fr) → Q (.panic c) a w') : o.wp P a w K Q := by
 unfold Oper.wp
 rw [hr]
 refine (hs E w fr hE hw).mono fun e w' h => ?_
 rcases h with ⟨v, m, he, hR, hm⟩ | ⟨c, m, he, hX, hm⟩
 · subst he
   exact hk v m w' hR hm
 · subst he
   exact hp c m w' hX hm
theorem jN {f : FuncId} {xs : List Operand} {at_ : Array TypeId} {args : List Value} {pre fr : List HP} {R : Value → List HP → Prop} {X : List PanicEntry → List HP → Prop} {K : Act → World → Prop} (hi : Nat.blt i n = true) (hb : eA P f = true) (hx : ou ts xs = some args) (hE : G E)
 (hs : DoesX P G f args.toArray pre R X) (hl : Ent l (pre ++ fr)) (hp : ∀ c m, X c m → At E n D ts (m ++ fr) (Q (.panic c))) (h : ∀ v m, R v m → At E n D ((i, v) :: ts) (m ++ fr) K) :
 At E n D ts l (fun a w => (Oper.mk (some i) (.call { callee := .value (.func f), args := xs.toArray, argTypes := at_ }) ty pos af g).wp P a w K Q) := fun a w ft hw => by
 refine oU (f := f) (args := args.toArray) ?_ hE hs (hw.ent hl) (fun v m w' hR hm => h v m hR _ w' (ft.put i (Nat.le_of_ble_eq_true hi) v) hm) fun c m w' hX hm => hp c m hX a w' ft hm
 have := cF ft.knows hx
 simp [execOp, resolve, Deferred.ofValue, Act.eval, invoke, this, cN hb]
theorem rA {x : Operand} {f : FuncId} {first captured : Array Value} {xs : List Operand} {at_ : Array TypeId} {args : List Value} {pre fr : List HP} {R : Value → List HP → Prop} {X : List PanicEntry → List HP → Prop} {K : Act → World → Prop} (hi : Nat.blt i n = true)
 (hv : ev ts x = some (.func (.func f) first captured)) (hb : eA P f = true) (hx : ou ts xs = some args) (hE : G E) (hs : DoesX P G f (first ++ args.toArray ++ captured) pre R X) (hl : Ent l (pre ++ fr)) (hp : ∀ c m, X c m → At E n D ts (m ++ fr) (Q (.panic c)))
 (h : ∀ v m, R v m → At E n D ((i, v) :: ts) (m ++ fr) K) :
 At E n D ts l (fun a w => (Oper.mk (some i) (.call { callee := .value x, args := xs.toArray, argTypes := at_ }) ty pos af g).wp P a w K Q) := fun a w ft hw => by
 refine oU (f := f) (args := first ++ args.toArray ++ captured) ?_ hE hs (hw.ent hl) (fun v m w' hR hm => h v m hR _ w' (ft.put i (Nat.le_of_ble_eq_true hi) v) hm) fun c m w' hX hm => hp c m hX a w' ft hm
 have := cF ft.knows hx
 simp [execOp, resolve, Deferred.ofValue, ft.eval hv, invoke, this, cN hb]
theorem fK {f : FuncId} {xs : List Operand} {at_ : Array TypeId} {args : List Value} {v : Value} {φ : World → Prop} (hx : ou ts xs = some args) (h : ∀ w, φ w → (callFunc f args.toArray).run P w = .ok (.value v) w) : Ev P ts (.call { callee := .value (.func f), args := xs.toArray, argTypes := at_ }) v φ := by
 intro a w _ _ _ _ _ kn hφ
 have := cF kn hx
 simp [execOp, resolve, Deferred.ofValue, Act.eval, invoke, this, h w hφ]
theorem dc {r : Operand} {m : String} {t : TypeId} {u : Value} {f : FuncId} {u' : Value} {xs : List Operand} {at_ : Array TypeId} {args : List Value} {v : Value} {φ : World → Prop} (hr : ev ts r = some (.iface t u)) (hx : ou ts xs = some args) (hm : ∀ w, (Go.method (P.types.size + Made.depth) t u m).run P w = .ok (f, u') w)
 (h : ∀ w, φ w → (callFunc f (u' :: args).toArray).run P w = .ok (.value v) w) : Ev P ts (.call { callee := .invoke r m, args := xs.toArray, argTypes := at_ }) v φ := by
 intro a w _ _ _ _ _ kn hφ
 have h1 := cF kn hx
 have h2 : (#[a.eval r] ++ (xs.toArray.map a.eval)) = #[Value.iface t u] ++ args.toArray := by simp [kn.eval hr, h1]
 simp only [execOp, resolve, Sem.run_bind, Sem.run_pure, Result.andThen_ok, h2, invoke]
 simp [callMethod, hm, h w hφ]
theorem q9 {f : FuncId} {xs : List Operand} {at_ : Array TypeId} {args : List Value} {o : Obj} {v : Nat → Value} {K : Act → World → Prop} (hi : Nat.blt i n = true) (hx : ou ts xs = some args) (hr : ∀ w, (callFunc f args.toArray).run P w = .ok (.value (v w.heap.size)) (w.alloc o))
 (h : ∀ b, At E n D ((i, v b) :: ts) (ob b o :: l) K) : At E n D ts l (fun a w => (Oper.mk (some i) (.call { callee := .value (.func f), args := xs.toArray, argTypes := at_ }) ty pos af g).wp P a w K Q) := fun a w ft hw => by
 have h1 := cF ft.knows hx
 have : (execOp a.eval (Oper.mk (some i) (.call { callee := .value (.func f), args := xs.toArray, argTypes := at_ }) ty pos af g)).run P w = .ok (.value (v w.heap.size)) (w.alloc o) := by
  simp [execOp, resolve, Deferred.ofValue, Act.eval, invoke, h1, hr w]
 show (Oper.mk (some i) (.call { callee := .value (.func f), args := xs.toArray, argTypes := at_ }) ty pos af g).wp P a w K Q
 unfold Oper.wp
 rw [this]
 exact h _ _ _ (ft.put i (Nat.le_of_ble_eq_true hi) _) (hw.alloc _)
theorem ef {r : Operand} {m : String} {t : TypeId} {u : Value} {f : FuncId} {u' : Value} {xs : List Operand} {at_ : Array TypeId} {args : List Value} {pre fr : List HP} {R : Value → List HP → Prop} {K : Act → World → Prop} (hi : Nat.blt i n = true) (hr : ev ts r = some (.iface t u)) (hx : ou ts xs = some args)
 (hm : ∀ w, (Go.method (P.types.size + Made.depth) t u m).run P w = .ok (f, u') w) (hb : eA P f = true) (hE : G E) (hs : Does P G f (u' :: args).toArray pre R) (hl : Ent l (pre ++ fr)) (h : ∀ v m, R v m → At E n D ((i, v) :: ts) (m ++ fr) K) :
 At E n D ts l (fun a w => (Oper.mk (some i) (.call { callee := .invoke r m, args := xs.toArray, argTypes := at_ }) ty pos af g).wp P a w K Q) := fun a w ft hw => by
 refine nh (f := f) (args := (u' :: args).toArray) ?_ hE hs (hw.ent hl) fun v m w' hR hm => h v m hR _ w' (ft.put i (Nat.le_of_ble_eq_true hi) v) hm
 have h1 := cF ft.knows hx
 have h2 : (#[a.eval r] ++ (xs.toArray.map a.eval)) = #[Value.iface t u] ++ args.toArray := by simp [ft.eval hr, h1]
 simp only [execOp, resolve, Sem.run_bind, Sem.run_pure, Result.andThen_ok, h2, invoke]
 simp [callMethod, hm, cN hb]
theorem ev_as {x : Operand} {t s : TypeId} {u : Value} {d : TypeDesc} (hd : P.underlying s = some d) (hn : (match d with | .interface _ => true | _ => false) = false) (hx : ev ts x = some (.iface s u)) : Ev P ts (.typeAssert x t s true) (.tuple #[u, .bool true]) Any := by
 intro a w _ _ _ _ _ kn _
 simp only [execOp, kn.eval hx, Instr.typeAssert, Sem.run_bind, run_underlying hd, Result.andThen_ok]
 cases d <;> simp_all
theorem Ck {x : Operand} {t s s' : TypeId} {u : Value} {ms : Array (String × TypeId)} (hd : P.underlying s = some (.interface ms)) (hx : ev ts x = some (.iface s' u)) (hl : (P.info? s').map (fun i => (Go.lacking ms i.methods).isEmpty) = some true) : Ev P ts (.typeAssert x t s true) (.tuple #[.iface s' u, .bool true]) Any := by
 intro a w _ _ _ _ _ kn _
 simp [execOp, kn.eval hx, Go.run_typeAssert_hasB hd hl u t w]
theorem j8 {x : Operand} {t s s' : TypeId} {u z : Value} {ms : Array (String × TypeId)} (hd : P.underlying s = some (.interface ms)) (hx : ev ts x = some (.iface s' u)) (hl : (P.info? s').map (fun i => (Go.lacking ms i.methods).isEmpty) = some false) (hz : (P.info? s).map (·.zero) = some (some z)) : Ev P ts (.typeAssert x t s true) (.tuple #[z, .bool false]) Any := by
 intro a w _ _ _ _ _ kn _
 simp [execOp, kn.eval hx, Go.run_typeAssert_lacksB hd hl hz u t w]
theorem xq {t t' : TypeId} {x y : Operand} {s s' : TypeId} {u v : Value} {ms : Array (String × TypeId)} (ht : P.underlying t = some (.interface ms)) (hx : ev ts x = some (.iface s u)) (hy : ev ts y = some (.iface s' v)) (hne : Nat.beq s s' = false) : Ev P ts (.binOp .eql t x y t') (.bool false) Any := by
 intro ac w _ _ _ _ _ kn _
 have : s ≠ s' := fun e => by subst e; simp at hne
 exact dp (kn.eval hx) (kn.eval hy) (by simp [eqGuard]) (jR Z fun d => by simp [Op.equalIn, run_underlying ht, this])
theorem nD {t t' : TypeId} {x y : Operand} {s : TypeId} {k : IntKind} {u v : Int} {ms : Array (String × TypeId)} {ti : TypeInfo} {r : Bool} (ht : P.underlying t = some (.interface ms)) (hs : P.underlying s = some (.int k)) (hi : P.info? s = some ti) (hc : ti.comparable = true) (hx : ev ts x = some (.iface s (.int k u))) (hy : ev ts y = some (.iface s (.int k v))) (hr : (u == v) = r) : Ev P ts (.binOp .eql t x y t') (.bool r) Any := by
 intro ac w _ _ _ _ _ kn _
 subst hr
 refine dp (kn.eval hx) (kn.eval hy) (by simp [eqGuard]) ?_
 have h : ∀ d, (Op.equalIn (d + 2) t (.iface s (.int k u)) (.iface s (.int k v))).run P w = .ok (u == v) w := fun d => by
  simp [Op.equalIn, run_underlying ht, run_underlying hs, typeInfo, hi, hc]
 show (do pure (.bool (← Op.equal t (.iface s (.int k u)) (.iface s (.int k v)))) : Sem Value).run P w = _
 simp only [Op.equal, Op.maxDepth, Sem.run_bind, h 9998, Result.andThen_ok, Sem.run_pure]
def Res (P : Program) (E : Env) (ts : List (Nat × Value)) (l : List HP) (r : ResultVar) (v : Value) : Prop :=
 ∀ (a : Act) (w : World), (∀ i u, look i ts = some u → a.tmps[i]? = some u) → Holds E w l → ((match r with | .tmp t => pure (a.tmps.getD t undef) | .cell c t => do loadVar t (← asAddr (a.tmps.getD c undef))) : Sem Value).run P w = .ok v w
theorem Res.tmp {t : Nat} {v : Value} (h : look t ts = some v) : Res P E ts l (.tmp t) v := fun a w k _ => by simp [gx (k t v h)]
theorem eF {c : Nat} {t : TypeId} {p : Addr} {v : Value} (hd : iu P t = some false) (h : look c ts = some (.pointer (some p))) (hc : ∀ w, Holds E w l → bI p v w) : Res P E ts l (.cell c t) v := fun a w k hw => by
 simp only [gx (k c _ h), asAddr, Sem.run_bind, Sem.run_pure, Result.andThen_ok]
 exact dK hd (hc w hw)
theorem bU {c : Nat} {t : TypeId} {b o m : Nat} {vs : List Value} (hd : iu P t = some true) (hz : bZ P t m) (hm : vs.length = m) (h : look c ts = some (.pointer (some ⟨b, o, none⟩))) (hc : ∀ w, Holds E w l → gK b o vs w) : Res P E ts l (.cell c t) (.agg vs.toArray) := fun a w k hw => by
 simp only [gx (k c _ h), asAddr, Sem.run_bind, Sem.run_pure, Result.andThen_ok]
 exact qE hd hz hm (hc w hw)
theorem sr {fn : Func} {r : ResultVar} {v : Value} (hr : fn.results = #[r]) (h : Res P E ts l r v) {a : Act} {w : World} (k : ∀ i u, look i ts = some u → a.tmps[i]? = some u) (hw : Holds E w l) : (results fn a.tmps).run P w = .ok v w := by
 have := h a w k hw
 simp only [results, hr]
 simp only [Array.mapM_eq_mapM_toList, List.mapM_cons, List.mapM_nil, Sem.run_bind, Sem.run_map]
 cases r <;> simp_all
theorem sn {fn : Func} {r s : ResultVar} {u v : Value} (hr : fn.results = #[r, s]) (h : Res P E ts l r u) (h' : Res P E ts l s v) {a : Act} {w : World} (k : ∀ i u, look i ts = some u → a.tmps[i]? = some u) (hw : Holds E w l) : (results fn a.tmps).run P w = .ok (.tuple #[u, v]) w := by
 have h1 := h a w k hw
 have h2 := h' a w k hw
 simp only [results, hr]
 simp only [Array.mapM_eq_mapM_toList, List.mapM_cons, List.mapM_nil, Sem.run_bind, Sem.run_map]
 cases r <;> cases s <;> simp_all
theorem sm {fn : Func} {r s q : ResultVar} {u v x : Value} (hr : fn.results = #[r, s, q]) (h : Res P E ts l r u) (h' : Res P E ts l s v) (h'' : Res P E ts l q x) {a : Act} {w : World} (k : ∀ i u, look i ts = some u → a.tmps[i]? = some u) (hw : Holds E w l) : (results fn a.tmps).run P w = .ok (.tuple #[u, v, x]) w := by
 have h1 := h a w k hw
 have h2 := h' a w k hw
 have h3 := h'' a w k hw
 simp only [results, hr]
 simp only [Array.mapM_eq_mapM_toList, List.mapM_cons, List.mapM_nil, Sem.run_bind, Sem.run_map]
 cases r <;> cases s <;> cases q <;> simp_all
theorem m2 {fn : Func} {fr : List HP} {R : Value → List HP → Prop} {r : ResultVar} {v : Value} (m : List HP) (hr : fn.results = #[r]) (h : Res P E ts l r v) (hR : R v m) (hm : Ent l (m ++ fr)) : At E n [] ts l (Ends P fn E fr R .ret) := fun _ _ f hw =>
 ⟨f.defers, v, sr hr h f.get hw, _, m, rfl, hR, hw.ent hm⟩
theorem eW {fn : Func} {fr : List HP} {R : Value → List HP → Prop} {r s : ResultVar} {u v : Value} (m : List HP) (hr : fn.results = #[r, s]) (h : Res P E ts l r u) (h' : Res P E ts l s v) (hR : R (.tuple #[u, v]) m) (hm : Ent l (m ++ fr)) : At E n [] ts l (Ends P fn E fr R .ret) := fun _ _ f hw =>
 ⟨f.defers, _, sn hr h h' f.get hw, _, m, rfl, hR, hw.ent hm⟩
theorem ie {fn : Func} {fr : List HP} {R : Value → List HP → Prop} {r s q : ResultVar} {u v x : Value} (m : List HP) (hr : fn.results = #[r, s, q]) (h : Res P E ts l r u) (h' : Res P E ts l s v) (h'' : Res P E ts l q x) (hR : R (.tuple #[u, v, x]) m) (hm : Ent l (m ++ fr)) : At E n [] ts l (Ends P fn E fr R .ret) := fun _ _ f hw =>
 ⟨f.defers, _, sm hr h h' h'' f.get hw, _, m, rfl, hR, hw.ent hm⟩
end
end Go.SL
