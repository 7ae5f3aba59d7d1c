/- Slices of timers: DeleteFunc. -/
import Derived.Test.YtmeegfamopaljaaGreatDoorEdK
import Derived.Test.YtmeegfamopaljaaGreatDoorEdA
import Derived.Test.YtmeegfamopaljaaGreatDoorEdB
import Derived.Test.YtmeegfamopaljaaGreatDoorEdI
import Derived.Laws.Externs
import Derived.Lib.LaidTab
import Derived.Lib.ItoaNum
import Derived.Test.YtmeegfamopaljaaGreatDoorEdH
namespace Go.SL
open Go Go.RowKit
section
variable {P : Program} {E : Env} {n : Nat} {D : List Deferred} {ts : List (Nat × Value)} {l : List HP} {ops : Array Oper} {Q : Exit → Act → World → Prop} {ty : TypeId} {pos : String} {af : Array Edge} {g : Option (Nat × Bool)}
theorem y9 {t e tb : TypeId} {x : Operand} {b o c : Nat} {z : Value} {cs : Array Value} {r : List HP} {d : Option Tmp} {K : Act → World → Prop} [hh : Has b l (.cells cs tb) r] (hd : d = none) (ht : P.underlying t = some (.slice e)) (hz : fq P e z) (hone : z.cells = #[z])
 (hx : ev ts x = some (.slice (some ⟨b, o, none⟩) 1 c)) (hv : z.oneCell' = true) (hi : o < cs.size) (h : At E n D ts (blk b tb (cs.setIfInBounds o z) :: r) K) :
 At E n D ts l (fun a w => (Oper.mk d (.call { callee := .builtin .clear, args := #[x], argTypes := #[t] }) ty pos af g).wp P a w K Q) := fun a w f hw => by
 subst hd
 have hb := (hw.ob hh.sel).1
 have : (execOp a.eval (Oper.mk none (.call { callee := .builtin .clear, args := #[x], argTypes := #[t] }) ty pos af g)).run P w = .ok (.value (.tuple #[])) (w.setCell ⟨b, o, none⟩ z) := by
  simp [execOp, resolve, invoke, builtin, f.eval hx, Builtin.clear_, run_underlying ht, e9 hz, hone, Builtin.zeroCells, storeCells, add_plain, gW hb hi hv]
 show (Oper.mk none (.call { callee := .builtin .clear, args := #[x], argTypes := #[t] }) ty pos af g).wp P a w K Q
 unfold Oper.wp
 rw [this]
 exact h a _ f (hw.store hh.sel)
theorem AT {t e : TypeId} {x o : Operand} {b m c a d : Nat} {k : IntKind} (ht : P.underlying t = some (.slice e)) (hz : bZ P e 1) (hx : ev ts x = some (.slice (some ⟨b, 0, none⟩) m c)) (ho : ev ts o = some (.int k (a : Int))) (h1 : a ≤ m) (h2 : m ≤ c) (hne : c ≠ a) (hd : m - a = d) :
 Ev P ts (.slice t x (some o) none none) (.slice (some ⟨b, a, none⟩) d (c - a)) Any := by
 have := cM (P := P) (lo := some o) (hi := none) (a := a) (b := m) ht hz hx ⟨k, ho⟩ rfl h1 h2
 rw [if_neg hne, hd] at this
 simpa [add_plain] using this
theorem AU {t e : TypeId} {x o : Operand} {b m c a : Nat} {k : IntKind} (ht : P.underlying t = some (.slice e)) (hz : bZ P e 1) (hx : ev ts x = some (.slice (some ⟨b, 0, none⟩) m c)) (ho : ev ts o = some (.int k (a : Int))) (h2 : a ≤ c) :
 Ev P ts (.slice t x none (some o) none) (.slice (some ⟨b, 0, none⟩) a c) Any := by
 have := cM (P := P) (lo := none) (hi := some o) (a := 0) (b := a) ht hz hx rfl ⟨k, ho⟩ (Nat.zero_le _) h2
 simpa [add_plain] using this
end
end Go.SL
namespace Go.Proofs.YtmeegfamopaljaaGreatDoor
open Go Go.RowKit Go.SL
variable {G : Env → Prop}
def xN (bs : List Nat) (i j : Nat) : List Value := ((bs.eraseIdx i).take (j - 1) ++ bs.drop (j - 1)).map aL
theorem wO (bs : List Nat) (i : Nat) (hi : i < bs.length) : xN bs i (i + 1) = bs.map aL := by
 unfold xN
 have : (bs.eraseIdx i).take i = bs.take i := by
  rw [List.eraseIdx_eq_take_drop_succ, List.take_append_of_le_length (by simp; omega), List.take_take, Nat.min_self]
 rw [Nat.add_sub_cancel, this, List.take_append_drop]
theorem B4 {bs : List Nat} {i j : Nat} {o : Nat} (hij : i < j) (hj : bs[j]? = some o) : (xN bs i j)[j]? = some (aL o) := by
 have hl := (List.getElem?_eq_some_iff.1 hj).1
 unfold xN
 rw [List.getElem?_map, List.getElem?_append_right (by simp [List.length_eraseIdx]; split <;> omega)]
 have h1 : ((bs.eraseIdx i).take (j - 1)).length = j - 1 := by simp [List.length_eraseIdx]; split <;> omega
 rw [h1, List.getElem?_drop, show j - 1 + (j - (j - 1)) = j by omega, hj]
 rfl
theorem zf {bs : List Nat} {i j : Nat} {o : Nat} (hij : i < j) (hj : bs[j]? = some o) : (xN bs i j).set (j - 1) (aL o) = xN bs i (j + 1) := by
 have hl := (List.getElem?_eq_some_iff.1 hj).1
 have h1 : ((bs.eraseIdx i).take (j - 1)).length = j - 1 := by simp [List.length_eraseIdx]; split <;> omega
 have h2 : (bs.eraseIdx i)[j - 1]? = some o := by
  rw [List.getElem?_eraseIdx, if_neg (by omega), show j - 1 + 1 = j by omega, hj]
 have h3 : bs.drop (j - 1) = bs[j - 1] :: bs.drop j := by
  rw [List.drop_eq_getElem_cons (by omega)]
  congr 2
  omega
 unfold xN
 rw [← List.map_set, List.set_append_right _ _ (by omega), h1, Nat.sub_self, h3, List.set_cons_zero, Nat.add_sub_cancel]
 have h4 := jT h2
 rw [show j - 1 + 1 = j by omega] at h4
 rw [h4]
 simp
theorem AH {bs : List Nat} {i : Nat} (hi : i < bs.length) : (xN bs i bs.length).take (bs.length - 1) = (bs.eraseIdx i).map aL := by
 unfold xN
 have h1 : (bs.eraseIdx i).length = bs.length - 1 := by simp [List.length_eraseIdx, hi]
 rw [← List.map_take, List.take_append_of_le_length (by simp [h1]), List.take_take, Nat.min_self, List.take_of_length_le (by omega)]
theorem Be {bs : List Nat} {i c : Nat} {cur : Array Value} {z : Value} (hs : cur.size = c * 1) (ht : cur.toList.take (bs.length * 1) = xN bs i bs.length) (hc : bs.length ≤ c) (hi : i < bs.length) : (cur.setIfInBounds (bs.length - 1) z).toList.take ((bs.length - 1) * 1) = (bs.eraseIdx i).map aL := by
 rw [← AH hi, ← ht, Array.toList_setIfInBounds, List.take_set, List.take_take]
 rw [List.set_eq_of_length_le (by simp; omega)]
 congr 1
 omega
set_option maxRecDepth 10000 in
theorem uF {p : HP} {bs : List Nat} (hp : Blks p bs) {A : Option Addr} {c i t cl : Nat} (hi : bs[i]? = some t) (hne : ∀ j, j ≠ i → bs[j]? ≠ some t) (hl : bs.length ≤ 100000) :
 Does Tryz.prog G 225 [.slice A bs.length c, .func (.func 226) #[] #[aL cl]].toArray [cA (.slice A bs.length c) bs, blk cl 338 #[aL t], p]
  fun v m => (∃ A' c', v = .slice A' (bs.eraseIdx i).length c') ∧ m = [cA v (bs.eraseIdx i), blk cl 338 #[aL t], p] := by
 have hil := (List.getElem?_eq_some_iff.1 hi).1
 refine Does.body Tryz.func225 Z Z fun E fr hE => ?_
 refine cu (aJ .head ?_)
 intro A' c' hA hnil hform hc1 hc2 _
 injection hA with hA _ hcc
 subst hA; subst hcc
 have hc3 : c ≤ 9223372036854775807 := by unfold maxLen at hc2; omega
 obtain ⟨g, rfl⟩ : ∃ g, A = some ⟨g, 0, none⟩ := by
  cases A with
  | none => have := (hnil rfl).1; omega
  | some ad => obtain ⟨g, rfl⟩ := hform ad rfl; exact ⟨g, rfl⟩
 refine At.seq (At.region (L.as Z Z (L.nil (At.then (At.seq (At.region (L.mv Z Z (L.mv Z Z ?_))))))))
 refine L.op Z (ah Z Z Z hE (zu hp hi (fun j hj => hne j (by omega)) hl) (Ent.refl _) ?_)
 rintro v m ⟨rfl, rfl⟩
 refine cu (L.as Z Z (L.nil (At.then (At.seq (At.seq (At.region (L.mv Z Z ?_)))))))
 refine L.pure Z (aV (r := false) Z Z (by rw [decide_eq_false_iff_not]; omega)) ?_
 refine L.nil (At.then (aj Z (At.skip (At.then (At.seq (At.seq (At.region (L.mv Z Z ?_))))))))
 refine L.pure Z (aO Z Z (cT (by omega))) ?_
 refine L.as Z Z (L.nil (At.then (At.block ?_)))
 refine aT (X := Nat) (fun j => [(6, .int .i64 (j : Nat)), (5, .int .i64 (j - 1 : Nat)), (0, .slice (some ⟨g, 0, none⟩) bs.length c), (1, .func (.func 226) #[] #[aL cl])]) (fun j => row 338 1 (.slice (some ⟨g, 0, none⟩) bs.length c) bs.length (xN bs i j) :: blk cl 338 #[aL t] :: p :: fr) (fun j => i < j ∧ j ≤ bs.length) (fun j => bs.length - j) (i + 1) (by omega) ⟨rfl, rfl, rfl, rfl, trivial⟩ (by rw [wO bs i hil]; exact Ent.refl _) ?_
 rintro j ⟨hij, hj⟩
 refine At.seq (At.seq (At.region (L.mv Z Z (L.mv Z Z (L.pure Z (aP Z Z) (L.pure Z (bf Z Z Z) (L.nil (At.then ?_))))))))
 refine aC Z (fun c19 => ?_) (fun c19 => ?_)
 ·
  have hlt : j < bs.length := by omega
  obtain ⟨o, ho⟩ : ∃ o, bs[j]? = some o := ⟨bs[j], by simp [hlt]⟩
  have hom := List.mem_of_getElem? ho
  have htm := List.mem_of_getElem? hi
  have hot : o ≠ t := fun h => hne j (by omega) (by rw [ho, h])
  refine At.skip (At.then (At.seq (At.block (At.seq (At.region (L.mv Z Z (L.mv Z Z (L.pure Z (bD (z := 1) Z Z Z Z hlt) ?_))))))))
  refine L.val Z (aa (v := aL o) Z Z) (iw .head (by simpa using B4 hij ho)) ?_
  refine L.as Z Z (L.nil (At.then (At.seq (At.region (L.mv Z Z (L.mv Z Z (L.op Z (jO Z Z Z Z hE (drop1 hp o t cl hom htm) (aK (.tail (.head)) (.tail (.head))) ?_))))))))
  rintro v m ⟨rfl, rfl⟩
  refine aF ?_
  refine L.pure Z (ck (r := true) Z (by simp [hot])) ?_
  refine L.nil (At.then (aR Z (At.seq (At.region (L.mv Z Z (L.mv Z Z (L.mv Z Z ?_)))))))
  refine L.pure Z (bD (z := 1) Z Z Z Z (by omega : j - 1 < bs.length)) ?_
  refine L.op Z (fd (.tail (.tail (.head))) Z Z Z Z (by omega) ?_)
  rw [show 0 + (j - 1) * 1 = j - 1 by omega, zf hij ho]
  refine L.nil (At.then (At.region (L.mv Z Z ?_)))
  refine L.pure Z (aO (r := ((j + 1 - 1 : Nat) : Int)) Z Z (by rw [cT (by omega)]; omega)) ?_
  refine L.as Z Z (L.nil (al (At.then (At.region (L.mv Z Z ?_)))))
  refine L.pure Z (aO Z Z (cT (by omega))) ?_
  refine L.as Z Z (L.nil ?_)
  exact At.round (j + 1) (by omega) (by omega) ⟨rfl, rfl, rfl, rfl, trivial⟩ (Ent.refl _)
 ·
  obtain rfl : j = bs.length := by omega
  have hn1 : (bs.eraseIdx i).length = bs.length - 1 := by simp [List.length_eraseIdx, hil]
  have hca : ¬ c = bs.length - 1 := by omega
  refine je .head (fun h => by cases h) ?_
  intro g' cap cur hg _ hm hcm hs htk
  injection hg with hg _ hcap
  injection hg with hg
  injection hg with hg
  subst hg; subst hcap
  refine At.exit (au (ar (an (At.then (At.seq (At.region (L.mv Z Z (L.mv Z Z ?_))))))))
  refine L.pure Z (AT (a := bs.length - 1) (d := 1) Z Z Z Z (by omega) hc1 hca (by omega)) ?_
  refine L.op Z (y9 (z := .pointer none) (b := g) (o := bs.length - 1) (c := c - (bs.length - 1)) (cs := cur) Z Z Z Z Z Z (by omega) ?_)
  refine L.nil (At.then (At.seq (At.region (L.mv Z Z (L.mv Z Z ?_)))))
  refine L.pure Z (AU (a := bs.length - 1) Z Z Z Z (by omega)) ?_
  refine L.as Z Z (L.nil (At.then (At.ret ?_)))
  exact aA [_, _, _] rfl Z ⟨⟨some ⟨g, 0, none⟩, c, by rw [hn1]⟩, rfl⟩ (by rw [cA, hn1]; exact cq (by omega) hcm (by simpa using hs) (Be hs htk (by omega) hil))
end Go.Proofs.YtmeegfamopaljaaGreatDoor

namespace Go.SL
open Go Go.RowKit
section
variable {P : Program} {ts : List (Nat × Value)}
theorem xp {t : TypeId} {x y : Operand} {s : ByteArray} {k : IntKind} {i : Nat} {b : UInt8} (ht : P.underlying t = some .string) (hx : ev ts x = some (.string s)) (hy : ev ts y = some (.int k (i : Int))) (hv : s[i]? = some b) : Ev P ts (.index t x y) (.int .u8 b.toNat) Any := by
 intro a w _ _ _ _ _ kn _
 simp [execOp, kn.eval hx, kn.eval hy, Instr.index, asIntOf, run_underlying ht, hv]
theorem lG {t t' : TypeId} {x y : Operand} {k : IntKind} {a b r : Int} (hx : ev ts x = some (.int k a)) (hy : ev ts y = some (.int k b)) (hr : max a b = r) : Ev P ts (.call { callee := .builtin .max, args := #[x, y], argTypes := #[t, t'] }) (.int k r) Any := by
 intro ac w _ _ _ _ _ kn _
 subst hr
 have : max a b = if b > a then b else a := by split <;> omega
 simp [execOp, resolve, invoke, builtin, Builtin.max_, Builtin.max2, kn.eval hx, kn.eval hy, this]
theorem tt {t t' : TypeId} {x y : Operand} {k : IntKind} {a b r : Int} (hx : ev ts x = some (.int k a)) (hy : ev ts y = some (.int k b)) (hr : min a b = r) : Ev P ts (.call { callee := .builtin .min, args := #[x, y], argTypes := #[t, t'] }) (.int k r) Any := by
 intro ac w _ _ _ _ _ kn _
 subst hr
 have : min a b = if b < a then b else a := by split <;> omega
 simp [execOp, resolve, invoke, builtin, Builtin.min_, Builtin.min2, kn.eval hx, kn.eval hy, this]
end
end Go.SL
namespace Go.Proofs.YtmeegfamopaljaaGreatDoor
open Go Go.RowKit Go.SL
variable {G : Env → Prop}
def dk (x : Nat) : Nat := if x = 0 then 0 else Nat.log2 x + 1
theorem jG {x : Nat} (k : Nat) (h : 2 ^ k ≤ x) : dk x = k + dk (x / 2 ^ k) := by
 have hp : 0 < 2 ^ k := Nat.two_pow_pos k
 have hx : x ≠ 0 := by omega
 have hq : x / 2 ^ k ≠ 0 := by
  have := Nat.div_pos h hp
  omega
 unfold dk
 rw [if_neg hx, if_neg hq]
 have h1 : Nat.log2 x = k + Nat.log2 (x / 2 ^ k) := by
  rw [Nat.log2_eq_iff hx]
  obtain ⟨h2, h3⟩ := (Nat.log2_eq_iff hq).1 rfl
  constructor
  · rw [Nat.pow_add, Nat.mul_comm]
    exact (Nat.le_div_iff_mul_le hp).1 h2
  · rw [show k + Nat.log2 (x / 2 ^ k) + 1 = (Nat.log2 (x / 2 ^ k) + 1) + k by omega, Nat.pow_add]
    exact (Nat.div_lt_iff_lt_mul hp).1 h3
 omega
def len8 : ByteArray := ⟨((List.range 256).map fun i => UInt8.ofNat (dk i)).toArray⟩
theorem mr {i : Nat} (h : i < 256) : dk i ≤ 8 := by
 unfold dk
 split
 · omega
 · rename_i h0
   have := (Nat.log2_lt h0).2 (show i < 2 ^ 8 by omega)
   omega
theorem AM {i : Nat} (h : i < 256) : len8[i]? = some (UInt8.ofNat (dk i)) := by
 have : len8.data[i]? = some (UInt8.ofNat (dk i)) := by simp [len8, h]
 rw [← this]
 rfl
theorem zm {i : Nat} (h : i < 256) : (UInt8.ofNat (dk i)).toNat = dk i := by
 have := mr h
 simp
 omega
theorem kI (x k : Nat) (_hx : x < 18446744073709551616) (hk : k ≤ 64) : ((x : Int)).fdiv (2 ^ min ((k : Int)).toNat IntKind.u64.bits) = ((x / 2 ^ k : Nat) : Int) := by
 have h1 : min ((k : Int)).toNat IntKind.u64.bits = k := by
  show min ((k : Int)).toNat 64 = k
  omega
 rw [h1, Int.fdiv_eq_ediv_of_nonneg _ (Int.le_of_lt (Int.pow_pos (by omega)))]
 simp
set_option maxRecDepth 10000 in
theorem n5 (x : Nat) (hx : x < 18446744073709551616) : Does Tryz.prog G 227 [.int .u64 x].toArray [] fun v m => v = .int .i64 (dk x) ∧ m = [] := by
 refine Does.body Tryz.func227 Z Z fun E fr hE => ?_
 refine ay (At.seq (At.region (L.as Z Z (L.nil (At.then ?_)))))
 refine At.seq (At.cut (X := Nat × Nat) (fun y => [(0, .int .u64 y.1), (2, .int .i64 y.2)]) (fun _ => fr) (fun y => y.1 < 2 ^ 32 ∧ dk x = y.2 + dk y.1 ∧ y.2 ≤ 32) ?_ ?_)
 ·
  refine At.seq (At.region (L.mv Z Z (L.pure Z (nb Z Z Z) (L.nil (At.then ?_)))))
  refine aC Z (fun c4 => ?_) (fun c4 => ?_)
  ·
   refine At.seq (At.region (L.mv Z Z ?_))
   refine L.pure Z (ed (r := ((x / 2 ^ 32 : Nat) : Int)) Z Z (by omega) (kI x 32 hx (by omega))) ?_
   refine L.as Z Z (L.nil (At.then (At.region (L.as Z Z (L.nil ?_)))))
   exact bk (x / 2 ^ 32, 32) ⟨by simp only; omega, jG 32 (by omega), by simp⟩ ⟨rfl, rfl, trivial⟩ (Ent.refl _)
  ·
   refine At.skip ?_
   exact bk (x, 0) ⟨by simp only; omega, by simp, by simp⟩ ⟨rfl, rfl, trivial⟩ (Ent.refl _)
 rintro ⟨x1, n1⟩ ⟨h11, h12, h13⟩
 simp only at h11 h12 h13 ⊢
 refine At.seq (At.cut (X := Nat × Nat) (fun y => [(0, .int .u64 y.1), (2, .int .i64 y.2)]) (fun _ => fr) (fun y => y.1 < 2 ^ 16 ∧ dk x = y.2 + dk y.1 ∧ y.2 ≤ 48) ?_ ?_)
 ·
  refine At.seq (At.region (L.mv Z Z (L.pure Z (nb Z Z Z) (L.nil (At.then ?_)))))
  refine aC Z (fun c8 => ?_) (fun c8 => ?_)
  ·
   refine At.seq (At.region (L.mv Z Z ?_))
   refine L.pure Z (ed (r := ((x1 / 2 ^ 16 : Nat) : Int)) Z Z (by omega) (kI x1 16 (by omega) (by omega))) ?_
   refine L.as Z Z (L.nil (At.then (At.region (L.mv Z Z ?_))))
   refine L.pure Z (aO (r := ((n1 + 16 : Nat) : Int)) Z Z (by rw [cT (by omega)]; omega)) ?_
   refine L.as Z Z (L.nil ?_)
   exact bk (x1 / 2 ^ 16, n1 + 16) ⟨by simp only; omega, by rw [h12, jG (x := x1) 16 (by omega)]; simp only; omega, by simp only; omega⟩ ⟨rfl, rfl, trivial⟩ (Ent.refl _)
  ·
   refine At.skip ?_
   exact bk (x1, n1) ⟨by simp only; omega, h12, by simp only; omega⟩ ⟨rfl, rfl, trivial⟩ (Ent.refl _)
 rintro ⟨x2, n2⟩ ⟨h21, h22, h23⟩
 simp only at h21 h22 h23 ⊢
 refine At.seq (At.cut (X := Nat × Nat) (fun y => [(0, .int .u64 y.1), (2, .int .i64 y.2)]) (fun _ => fr) (fun y => y.1 < 256 ∧ dk x = y.2 + dk y.1 ∧ y.2 ≤ 56) ?_ ?_)
 ·
  refine At.seq (At.region (L.mv Z Z (L.pure Z (nb Z Z Z) (L.nil (At.then ?_)))))
  refine aC Z (fun c14 => ?_) (fun c14 => ?_)
  ·
   refine At.seq (At.region (L.mv Z Z ?_))
   refine L.pure Z (ed (r := ((x2 / 2 ^ 8 : Nat) : Int)) Z Z (by omega) (kI x2 8 (by omega) (by omega))) ?_
   refine L.as Z Z (L.nil (At.then (At.region (L.mv Z Z ?_))))
   refine L.pure Z (aO (r := ((n2 + 8 : Nat) : Int)) Z Z (by rw [cT (by omega)]; omega)) ?_
   refine L.as Z Z (L.nil ?_)
   exact bk (x2 / 2 ^ 8, n2 + 8) ⟨by simp only; omega, by rw [h22, jG (x := x2) 8 (by omega)]; simp only; omega, by simp only; omega⟩ ⟨rfl, rfl, trivial⟩ (Ent.refl _)
  ·
   refine At.skip ?_
   exact bk (x2, n2) ⟨by simp only; omega, h22, by simp only; omega⟩ ⟨rfl, rfl, trivial⟩ (Ent.refl _)
 rintro ⟨x3, n3⟩ ⟨h31, h32, h33⟩
 simp only at h31 h32 h33 ⊢
 have hsm := mr h31
 refine At.seq (At.region (L.mv Z Z (L.mv Z Z ?_)))
 refine L.pure Z (bq (r := (x3 : Int)) Z Z Z (wu8 (by omega))) ?_
 refine L.pure Z (xp (s := len8) Z (by kernel_rfl) Z (AM h31)) ?_
 refine L.pure Z (bq (r := (dk x3 : Int)) Z Z Z (by rw [zm h31]; exact cT (by omega))) ?_
 refine L.pure Z (aO (r := ((dk x : Nat) : Int)) Z Z (by rw [cT (by omega)]; omega)) ?_
 refine L.as Z Z (L.nil (At.then (At.ret ?_)))
 exact aA [] rfl Z ⟨rfl, rfl⟩ (Ent.refl _)
end Go.Proofs.YtmeegfamopaljaaGreatDoor

namespace Go.Proofs.YtmeegfamopaljaaGreatDoor
open Go Go.RowKit Go.SL
open FK (dy ch bK)
def tc (n : Nat) (f : Nat → Value) : Array Value := ((List.range n).map f).toArray
theorem BG {n : Nat} (f : Nat → Value) {i : Nat} (h : i < n) : (tc n f)[i]? = some (f i) := by simp [tc, h]
theorem ee (n : Nat) (f : Nat → Value) : (tc n f).size = n := by simp [tc]
theorem vV {n : Nat} {f g : Nat → Value} (h : ∀ i, i < n → f i = g i) : tc n f = tc n g := by
 unfold tc
 congr 1
 exact List.map_congr_left fun i hi => h i (List.mem_range.1 hi)
theorem Ah (n : Nat) (f : Nat → Value) (i : Nat) (v : Value) : (tc n f).setIfInBounds i v = tc n (dy f i v) := by
 apply Array.ext
 · simp [tc]
 · intro j h1 h2
   simp only [tc, Array.size_setIfInBounds, List.size_toArray, List.length_map, List.length_range] at h1
   by_cases hj : i = j
   · subst hj
     simp [tc, dy]
   · rw [Array.getElem_setIfInBounds_ne (by simpa [tc] using h1) hj]
     simp [tc, dy, Ne.symm hj]
attribute [irreducible] tc
abbrev wc (f : Nat → Value) : Array Value := tc 718 f
theorem oP (f : Nat → Value) {i : Nat} (h : i < 718) : (wc f)[i]? = some (f i) := BG f h
theorem kQ {f g : Nat → Value} (h : ∀ i, i < 718 → f i = g i) : wc f = wc g := vV h
theorem iq (f : Nat → Value) (i : Nat) (v : Value) : (wc f).setIfInBounds i v = wc (dy f i v) := Ah 718 f i v
def dh (now seq : Nat) (sl : Nat → Value) (us : Nat → Nat) (mp : Nat) : Nat → Value := fun i =>
 if i = 0 then .int .u64 now else if i = 1 then .int .u64 seq else if i < 706 then sl (i - 2) else if i < 717 then .int .u64 (us (i - 706)) else .map (some mp)
theorem lH (now seq : Nat) (sl : Nat → Value) (us : Nat → Nat) (mp n' : Nat) : wc (dy (dh now seq sl us mp) 0 (.int .u64 n')) = wc (dh n' seq sl us mp) := kQ fun i _ => by
 unfold dy dh
 by_cases h : i = 0 <;> simp [h]
theorem vU (now seq : Nat) (sl : Nat → Value) (us : Nat → Nat) (mp n' : Nat) : wc (dy (dh now seq sl us mp) 1 (.int .u64 n')) = wc (dh now n' sl us mp) := kQ fun i _ => by
 unfold dy dh
 by_cases h : i = 1
 · simp [h]
 · simp [h]
theorem ks (now seq : Nat) (sl : Nat → Value) (us : Nat → Nat) (mp : Nat) {k : Nat} (hk : k < 704) (v : Value) : wc (dy (dh now seq sl us mp) (2 + k) v) = wc (dh now seq (dy sl k v) us mp) := kQ fun i _ => by
 unfold dh
 by_cases h : i = 2 + k
 · subst h
   rw [ch, if_neg (by omega), if_neg (by omega), if_pos (by omega), show 2 + k - 2 = k by omega, ch]
 · rw [bK _ _ h]
   split
   · rfl
   · split
     · rfl
     · split
       · rw [bK _ _ (by omega)]
       · rfl
theorem kr (now seq : Nat) (sl : Nat → Value) (us : Nat → Nat) (mp : Nat) {k : Nat} (hk : k < 11) (n' : Nat) : wc (dy (dh now seq sl us mp) (706 + k) (.int .u64 n')) = wc (dh now seq sl (dy us k n') mp) := kQ fun i _ => by
 unfold dh
 by_cases h : i = 706 + k
 · subst h
   rw [ch, if_neg (by omega), if_neg (by omega), if_neg (by omega), if_pos (by omega), show 706 + k - 706 = k by omega, ch]
 · rw [bK _ _ h]
   split
   · rfl
   · split
     · rfl
     · split
       · rfl
       · split
         · rw [bK _ _ (by omega)]
         · rfl
theorem fN (now seq : Nat) (sl : Nat → Value) (us : Nat → Nat) (mp : Nat) : (wc (dh now seq sl us mp))[0]? = some (.int .u64 now) := oP _ (by omega)
theorem lI (now seq : Nat) (sl : Nat → Value) (us : Nat → Nat) (mp : Nat) : (wc (dh now seq sl us mp))[1]? = some (.int .u64 seq) := oP _ (by omega)
theorem gB (now seq : Nat) (sl : Nat → Value) (us : Nat → Nat) (mp : Nat) {k : Nat} (hk : k < 704) : (wc (dh now seq sl us mp))[2 + k]? = some (sl k) := by
 rw [oP _ (by omega)]
 unfold dh
 rw [if_neg (by omega), if_neg (by omega), if_pos (by omega), show 2 + k - 2 = k by omega]
theorem jS (now seq : Nat) (sl : Nat → Value) (us : Nat → Nat) (mp : Nat) {k : Nat} (hk : k < 11) : (wc (dh now seq sl us mp))[706 + k]? = some (.int .u64 (us k)) := by
 rw [oP _ (by omega)]
 unfold dh
 rw [if_neg (by omega), if_neg (by omega), if_neg (by omega), if_pos (by omega), show 706 + k - 706 = k by omega]
theorem fM (now seq : Nat) (sl : Nat → Value) (us : Nat → Nat) (mp : Nat) : (wc (dh now seq sl us mp))[717]? = some (.map (some mp)) := oP _ (by omega)
def jo (n : Nat) (sl : Nat → Value) (bs : Nat → List Nat) : List HP := (List.range n).map fun i => cA (sl i) (bs i)
abbrev kj (sl : Nat → Value) (bs : Nat → List Nat) : List HP := jo 704 sl bs
theorem yT {n : Nat} (sl : Nat → Value) (bs : Nat → List Nat) {i : Nat} (h : i < n) : (jo n sl bs)[i]? = some (cA (sl i) (bs i)) := by simp [jo, h]
theorem qC (n : Nat) (sl : Nat → Value) (bs : Nat → List Nat) : (jo n sl bs).length = n := by simp [jo]
theorem we {n : Nat} (sl : Nat → Value) (bs : Nat → List Nat) (i : Nat) (v : Value) (b : List Nat) : jo n (dy sl i v) (dy bs i b) = (jo n sl bs).set i (cA v b) := by
 unfold jo
 apply List.ext_getElem
 · simp
 · intro j h1 h2
   simp only [List.getElem_map, List.getElem_range, List.getElem_set]
   by_cases hj : i = j
   · subst hj
     simp [dy]
   · simp [dy, hj, Ne.symm hj]
attribute [irreducible] jo
def hZ (sl : Nat → Value) (bs : Nat → List Nat) : HP := HP.all (kj sl bs)
def gP (sl : Nat → Value) (bs : Nat → List Nat) (i : Nat) : HP := HP.all ((kj sl bs).eraseIdx i)
theorem Ent.pick : ∀ {l : List HP} {i : Nat} {p : HP}, l[i]? = some p → Ent l (p :: l.eraseIdx i)
 | [], _, _, h => by simp at h
 | q :: l, 0, p, h => by
  simp at h; subst h
  exact Ent.refl _
 | q :: l, i + 1, p, h => (Ent.cons (Ent.pick (l := l) (by simpa using h))).trans (Ent.perm (List.Perm.swap _ _ _))
theorem oo : ∀ (l : List HP) (i : Nat) (p : HP), i < l.length → Ent (p :: l.eraseIdx i) (l.set i p)
 | [], _, _, h => by simp at h
 | q :: l, 0, p, _ => Ent.refl _
 | q :: l, i + 1, p, h => (Ent.perm (List.Perm.swap _ _ _)).trans (Ent.cons (oo l i p (by simpa using h)))
theorem i6 {sl : Nat → Value} {bs : Nat → List Nat} {i : Nat} (hi : i < 704) {fr : List HP} : Ent (hZ sl bs :: fr) (cA (sl i) (bs i) :: gP sl bs i :: fr) :=
 (Ent.unall (m := kj sl bs)).trans (((Ent.pick (yT sl bs hi)).append fr).trans (Ent.cons (Ent.all (m := (kj sl bs).eraseIdx i))))
theorem ga {sl : Nat → Value} {bs : Nat → List Nat} {i : Nat} (hi : i < 704) {v : Value} {b : List Nat} {fr : List HP} : Ent (cA v b :: gP sl bs i :: fr) (hZ (dy sl i v) (dy bs i b) :: fr) := by
 have h1 := (oo (kj sl bs) i (cA v b) (by rw [qC]; exact hi)).append fr
 have e : (kj sl bs).set i (cA v b) = kj (dy sl i v) (dy bs i b) := (we sl bs i v b).symm
 rw [e] at h1
 exact ((Ent.cons (Ent.unall (m := (kj sl bs).eraseIdx i))).trans h1).trans (Ent.all (m := kj (dy sl i v) (dy bs i b)))
end Go.Proofs.YtmeegfamopaljaaGreatDoor

namespace Go.SL
open Go Go.RowKit
section
variable {P : Program} {ts : List (Nat × Value)}
theorem di {t e : TypeId} {x y : Operand} {k : IntKind} {i b o o' n z : Nat} (ht : P.underlying t = some (.array n e)) (hz : bZ P e z) (hx : ev ts x = some (.pointer (some ⟨b, o, none⟩))) (hy : ev ts y = some (.int k (i : Int))) (h1 : i < n) (ho : o + i * z = o') :
 Ev P ts (.indexAddr t x y) (.pointer (some ⟨b, o', none⟩)) Any := by
 have := Cj (P := P) ht hz hx hy (by omega) (by omega)
 subst ho
 simpa using this
end
end Go.SL
namespace Go.Proofs.YtmeegfamopaljaaGreatDoor
open Go Go.RowKit Go.SL
open FK (dy ch bK)
variable {G : Env → Prop}
theorem wu64 {a : Nat} (h : a < 18446744073709551616) : IntKind.u64.wrap (a : Int) = (a : Int) := by rw [lE]; omega
theorem Af {a b : Nat} (ha : a < 18446744073709551616) (hb : b < 18446744073709551616) : bits .xor .u64 (a : Int) (b : Int) = ((a ^^^ b : Nat) : Int) := by
 have h1 : a ^^^ b < 18446744073709551616 := Nat.xor_lt_two_pow (n := 64) ha hb
 have e : bits .xor .u64 (a : Int) (b : Int) = IntKind.u64.wrap (((BitVec.ofInt 64 (a : Int)) ^^^ (BitVec.ofInt 64 (b : Int))).toNat : Int) := rfl
 rw [e, BitVec.toNat_xor, BitVec.ofInt_natCast, BitVec.ofInt_natCast, BitVec.toNat_ofNat, BitVec.toNat_ofNat, Nat.mod_eq_of_lt ha, Nat.mod_eq_of_lt hb, wu64 h1]
theorem yq {a b : Nat} (ha : a < 18446744073709551616) (hb : b < 18446744073709551616) : bits .or .u64 (a : Int) (b : Int) = ((a ||| b : Nat) : Int) := by
 have h1 : a ||| b < 18446744073709551616 := Nat.or_lt_two_pow (n := 64) ha hb
 have e : bits .or .u64 (a : Int) (b : Int) = IntKind.u64.wrap (((BitVec.ofInt 64 (a : Int)) ||| (BitVec.ofInt 64 (b : Int))).toNat : Int) := rfl
 rw [e, BitVec.toNat_or, BitVec.ofInt_natCast, BitVec.ofInt_natCast, BitVec.toNat_ofNat, BitVec.toNat_ofNat, Nat.mod_eq_of_lt ha, Nat.mod_eq_of_lt hb, wu64 h1]
theorem vI {a s : Nat} (ha : a < 18446744073709551616) (hs : s < 64) : bits .andNot .u64 (a : Int) ((2 ^ s : Nat) : Int) = ((FK.clr a s : Nat) : Int) := by
 have hb : (2 : Nat) ^ s < 18446744073709551616 := Nat.pow_lt_pow_right (a := 2) (m := s) (n := 64) (by omega) hs
 have e : bits .andNot .u64 (a : Int) ((2 ^ s : Nat) : Int) = IntKind.u64.wrap (((BitVec.ofInt 64 (a : Int)) &&& ~~~ (BitVec.ofInt 64 ((2 ^ s : Nat) : Int))).toNat : Int) := rfl
 have h2 : a &&& (2 ^ 64 - 1 - 2 ^ s) = FK.clr a s := by
  unfold FK.clr
  congr 1
  omega
 rw [e, BitVec.toNat_and, BitVec.toNat_not, BitVec.ofInt_natCast, BitVec.ofInt_natCast, BitVec.toNat_ofNat, BitVec.toNat_ofNat, Nat.mod_eq_of_lt ha, Nat.mod_eq_of_lt hb, h2, wu64 (FK.clr_lt ha)]
theorem qi {s : Nat} (hs : s < 64) : IntKind.u64.wrap ((1 : Int) * 2 ^ min ((s : Int)).toNat IntKind.u64.bits) = ((2 ^ s : Nat) : Int) := by
 have hb : (2 : Nat) ^ s < 18446744073709551616 := Nat.pow_lt_pow_right (a := 2) (m := s) (n := 64) (by omega) hs
 have h1 : min ((s : Int)).toNat IntKind.u64.bits = s := by
  show min ((s : Int)).toNat 64 = s
  omega
 rw [h1, Int.one_mul, show ((2 : Int) ^ s) = ((2 ^ s : Nat) : Int) by simp, wu64 hb]
theorem AL (x : Nat) : (dk x - 1) / 6 = Nat.log2 x / 6 := by
 unfold dk
 split
 · rename_i h; subst h; rfl
 · rw [Nat.add_sub_cancel]
theorem zn {x : Nat} (hx : x < 18446744073709551616) : dk x ≤ 64 := by
 unfold dk
 split
 · omega
 · rename_i h0
   have := (Nat.log2_lt h0).2 (show x < 2 ^ 64 from hx)
   omega
abbrev Ad (p : FK.Pl) : Array Value := #[.int .u64 p.run, .int .i64 p.node, .int .i64 p.what]
abbrev fZ (p : FK.Pl) : Value := .agg (Ad p)
abbrev d8 (t : FK.Tmr) : HP := blk t.blk 340 #[.int .u64 t.key.run, .int .i64 t.key.node, .int .i64 t.key.what, .int .u64 t.due, .int .u64 t.seq, .int .i64 t.lvl, .int .i64 t.slot]
def gk (l : List FK.Tmr) : HP := HP.all (l.map d8)
def fk (l : List FK.Tmr) : List (FK.Pl × Value) := l.map fun t => (t.key, aL t.blk)
abbrev xM (w : Nat) (S : FK.WS) (sl : Nat → Value) (mp : Nat) : HP := blk w 337 (wc (dh S.now S.seq sl S.us mp))
def bw (w : Nat) (S : FK.WS) : HP := HP.ex fun p : (Nat → Value) × Nat => HP.all [xM w S p.1 p.2, hZ p.1 S.bs, gk S.tms, bF fZ p.2 (fk S.tms)]
theorem dO {E : Env} {n : Nat} {D : List Deferred} {ts : List (Nat × Value)} {l r : List HP} {K : Act → World → Prop} {w : Nat} {S : FK.WS} (s : Sel (bw w S) l r)
 (h : ∀ sl mp, At E n D ts (xM w S sl mp :: hZ sl S.bs :: gk S.tms :: bF fZ mp (fk S.tms) :: r) K) : At E n D ts l K := by
 refine At.ex s fun p => ?_
 exact bn (h p.1 p.2)
theorem bY {w : Nat} {S : FK.WS} {sl : Nat → Value} {mp : Nat} {r : List HP} : Ent (xM w S sl mp :: hZ sl S.bs :: gk S.tms :: bF fZ mp (fk S.tms) :: r) (bw w S :: r) :=
 (Ent.all (m := [xM w S sl mp, hZ sl S.bs, gk S.tms, bF fZ mp (fk S.tms)])).trans (Ent.ex (f := fun p : (Nat → Value) × Nat => HP.all [xM w S p.1 p.2, hZ p.1 S.bs, gk S.tms, bF fZ p.2 (fk S.tms)]) (sl, mp))
theorem tmrs_open {a b : List FK.Tmr} {t : FK.Tmr} {r : List HP} : Ent (gk (a ++ t :: b) :: r) (d8 t :: gk (a ++ b) :: r) := by
 refine (Ent.unall (m := (a ++ t :: b).map d8)).trans ?_
 have h : ((a ++ t :: b).map d8 ++ r).Perm (d8 t :: ((a ++ b).map d8 ++ r)) := by
  have : ((a ++ t :: b).map d8).Perm (d8 t :: (a ++ b).map d8) := by
   have h0 := (List.perm_middle (a := t) (l₁ := a) (l₂ := b)).map d8
   rwa [List.map_cons] at h0
  exact this.append_right r
 exact (Ent.perm h).trans (Ent.cons (Ent.all (m := (a ++ b).map d8)))
theorem tmrs_close {a b : List FK.Tmr} {t : FK.Tmr} {r : List HP} : Ent (d8 t :: gk (a ++ b) :: r) (gk (a ++ t :: b) :: r) := by
 refine (Ent.cons (Ent.unall (m := (a ++ b).map d8))).trans ?_
 have h : (d8 t :: ((a ++ b).map d8 ++ r)).Perm ((a ++ t :: b).map d8 ++ r) := by
  have : (d8 t :: (a ++ b).map d8).Perm ((a ++ t :: b).map d8) := by
   have h0 := ((List.perm_middle (a := t) (l₁ := a) (l₂ := b)).map d8).symm
   rwa [List.map_cons] at h0
  exact this.append_right r
 exact (Ent.perm h).trans (Ent.all (m := (a ++ t :: b).map d8))
theorem kR {w : World} {F : Nat → Prop} {l : List FK.Tmr} (h : (gk l).sat w F) {t : FK.Tmr} (ht : t ∈ l) : w.heap[t.blk]? = some (.cells #[.int .u64 t.key.run, .int .i64 t.key.node, .int .i64 t.key.what, .int .u64 t.due, .int .u64 t.seq, .int .i64 t.lvl, .int .i64 t.slot] 340) :=
 (Star.mem h (List.mem_map_of_mem ht)).2
theorem pT {E : Env} {l : List FK.Tmr} {m r : List HP} {t : FK.Tmr} {i : Nat} {v : Value} (s : Sel (gk l) m r) (ht : t ∈ l) (hv : (#[Value.int .u64 t.key.run, .int .i64 t.key.node, .int .i64 t.key.what, .int .u64 t.due, .int .u64 t.seq, .int .i64 t.lvl, .int .i64 t.slot])[i]? = some v) : ∀ w, Holds E w m → bI ⟨t.blk, i, none⟩ v w := fun w hw => by
 obtain ⟨F1, _, _, _, _, hp, _⟩ := (hw.sel s).star
 have := kR hp ht
 simp [bI, World.cell?, this, hv]
def Ae (l : List FK.Tmr) (b : Nat) : Nat := ((l.find? (·.blk == b)).map (·.seq)).getD 0
theorem pd {l : List FK.Tmr} {b : Nat} (h : ∃ u ∈ l, u.blk = b) : ∃ u ∈ l, u.blk = b ∧ Ae l b = u.seq := by
 obtain ⟨u, hu, e⟩ := h
 cases hf : l.find? (·.blk == b) with
 | none =>
  have := List.find?_eq_none.1 hf u hu
  simp [e] at this
 | some v =>
  have h1 := List.find?_some hf
  exact ⟨v, List.mem_of_find?_eq_some hf, by simpa using h1, by simp [Ae, hf]⟩
theorem tJ {l : List FK.Tmr} {bs : List Nat} {n : Nat} (h : ∀ b ∈ bs, ∃ u ∈ l, u.blk = b) (hlt : ∀ u ∈ l, u.blk ∈ bs → u.seq < n) : Below' (gk l) bs (Ae l) n := by
 constructor
 · intro b hb
   obtain ⟨u, hu, e, hs⟩ := pd (h b hb)
   rw [hs]
   exact hlt u hu (e ▸ hb)
 · intro w F hs b hb
   obtain ⟨u, hu, e, hq⟩ := pd (h b hb)
   have := kR hs hu
   rw [hq, ← e]
   simp [World.cell?, this]
theorem wa {l : List FK.Tmr} {bs : List Nat} (h : ∀ b ∈ bs, ∃ u ∈ l, u.blk = b) : Blks (gk l) bs := by
 intro w F hs b hb
 obtain ⟨u, hu, e⟩ := h b hb
 have := kR hs hu
 rw [e] at this
 exact ⟨_, _, this⟩
theorem np {S : FK.WS} {un : List Nat} (h : FK.Inv S un) (hl : S.tms.length ≤ 100000) {i : Nat} (hi : i < 704) : (S.bs i).length ≤ 100000 := by
 rw [h.slot i hi, List.length_map]
 exact Nat.le_trans (List.length_filter_le _ _) hl
end Go.Proofs.YtmeegfamopaljaaGreatDoor

namespace Go.Proofs.YtmeegfamopaljaaGreatDoor
open Go Go.RowKit Go.SL Go.Extern
structure Good (E : Env) : Prop where
 tab : ∀ w, E.is w → Tab w
 err : ∀ w, E.is w → w.cell? ⟨0, 0, none⟩ = some (.iface 314 (.agg #[.pointer (some ⟨Tryz.prog.globals.size, 109, none⟩)]))
 syn : ∀ w, E.is w → ∃ t p, w.cell? ⟨3, 0, none⟩ = some (.iface t p)
 pow : ∀ w, E.is w → Lib.TabIs Tryz.prog w "internal/strconv.uint64pow10" .u64 Lib.pow10Tab
noncomputable abbrev db (t : TypeId) : Value := .pointer (some ⟨Tryz.prog.globals.size, t, none⟩)
noncomputable abbrev rt (t : TypeId) : Value := .iface 314 (.agg #[db t])
noncomputable abbrev rv (t : TypeId) (b k : Nat) : Value := .agg #[db t, .pointer (some ⟨b, 0, none⟩), .int .u64 k]
theorem eh {f : FuncId} {fn : Func} {e : Array Value → Sem Value} (hf : Tryz.prog.funcs[f]? = some fn) (hname : (fn.name == "runtime.NumGoroutine") = false) (hb : fn.body.isNone = true) (hn : Extern.findNext fn = none) (he : Extern.find fn = some e)
 {args : Array Value} {w w' : World} {v : Value} (h : (e args).run Tryz.prog w = .ok v w') : (callFunc f args).run Tryz.prog w = .ok (.value v) w' := by
 rw [run_callFunc_extern hf hname hb hn he, h]; rfl
theorem oR (h : Value) (w : World) : (Go.method (Tryz.prog.types.size + Made.depth) 314 (.agg #[h]) "Kind").run Tryz.prog w = .ok (322, h) w := by kernel_rfl
theorem xZ (h : Value) (w : World) : (Go.method (Tryz.prog.types.size + Made.depth) 314 (.agg #[h]) "Elem").run Tryz.prog w = .ok (361, .agg #[h]) w := by kernel_rfl
theorem jF (h : Value) (w : World) : (Go.method (Tryz.prog.types.size + Made.depth) 314 (.agg #[h]) "Implements").run Tryz.prog w = .ok (362, .agg #[h]) w := by kernel_rfl
theorem ix (h : Value) (w : World) : (Go.method (Tryz.prog.types.size + Made.depth) 314 (.agg #[h]) "AssignableTo").run Tryz.prog w = .ok (359, .agg #[h]) w := by kernel_rfl
theorem mq (h : Value) (w : World) : (Go.method (Tryz.prog.types.size + Made.depth) 314 (.agg #[h]) "Comparable").run Tryz.prog w = .ok (360, .agg #[h]) w := by kernel_rfl
theorem AI (p : Addr) (w : World) : (Go.method (Tryz.prog.types.size + Made.depth) 159 (.pointer (some p)) "Unwrap").run Tryz.prog w = .ok (353, .pointer (some p)) w := by kernel_rfl
theorem uT {args : Array Value} {w w' : World} {v : Value} (h : ((fun args => ReflectliteValue.unpack (args.getD 0 (.tuple #[]))) args).run Tryz.prog w = .ok v w') : (callFunc 144 args).run Tryz.prog w = .ok (.value v) w' :=
 eh (e := (fun args => ReflectliteValue.unpack (args.getD 0 (.tuple #[])))) Tryz.func144 (by kernel_rfl) (by kernel_rfl) (by kernel_rfl) (by kernel_rfl) h
theorem oX (t : Nat) (w : World) : (callFunc 144 #[.iface 161 (.pointer (some ⟨t, 0, none⟩))]).run Tryz.prog w = .ok (.value (rv 161 w.heap.size 150)) (w.alloc (.cells #[.pointer (some ⟨t, 0, none⟩)] 161)) := uT (by kernel_rfl)
theorem yN (e : Addr) (w : World) : (callFunc 144 #[.iface 159 (.pointer (some e))]).run Tryz.prog w = .ok (.value (rv 159 w.heap.size 150)) (w.alloc (.cells #[.pointer (some e)] 159)) := uT (by kernel_rfl)
theorem Bx {args : Array Value} {w w' : World} {v : Value} (h : ((ReflectliteValue.methodAny (ReflectliteValue.valueError "reflectlite.Value.Type" 0) (fun t _ _ _ => ReflectliteType.toType t)) args).run Tryz.prog w = .ok v w') : (callFunc 145 args).run Tryz.prog w = .ok (.value v) w' :=
 eh (e := (ReflectliteValue.methodAny (ReflectliteValue.valueError "reflectlite.Value.Type" 0) (fun t _ _ _ => ReflectliteType.toType t))) Tryz.func145 (by kernel_rfl) (by kernel_rfl) (by kernel_rfl) (by kernel_rfl) h
theorem yh (b : Nat) (w : World) : (callFunc 145 #[rv 161 b 150]).run Tryz.prog w = .ok (.value (rt 161)) w := Bx (by kernel_rfl)
theorem uS {args : Array Value} {w w' : World} {v : Value} (h : ((ReflectliteType.abiMethod fun t => Functor.map (fun a : Nat => Value.int IntKind.u8 (a : Int)) (Rtype.kind t)) args).run Tryz.prog w = .ok v w') : (callFunc 322 args).run Tryz.prog w = .ok (.value v) w' :=
 eh (e := (ReflectliteType.abiMethod fun t => Functor.map (fun a : Nat => Value.int IntKind.u8 (a : Int)) (Rtype.kind t))) Tryz.func322 (by kernel_rfl) (by kernel_rfl) (by kernel_rfl) (by kernel_rfl) h
theorem yx (w : World) : (callFunc 322 #[db 161]).run Tryz.prog w = .ok (.value (.int .u8 22)) w := uS (by kernel_rfl)
theorem Bt (w : World) : (callFunc 322 #[db 159]).run Tryz.prog w = .ok (.value (.int .u8 22)) w := uS (by kernel_rfl)
theorem Bw {args : Array Value} {w w' : World} {v : Value} (h : ((ReflectliteType.method ReflectliteType.elem) args).run Tryz.prog w = .ok v w') : (callFunc 361 args).run Tryz.prog w = .ok (.value v) w' :=
 eh (e := (ReflectliteType.method ReflectliteType.elem)) Tryz.func361 (by kernel_rfl) (by kernel_rfl) (by kernel_rfl) (by kernel_rfl) h
theorem yE (w : World) : (callFunc 361 #[.agg #[db 161]]).run Tryz.prog w = .ok (.value (rt 159)) w := Bw (by kernel_rfl)
theorem Bv {args : Array Value} {w w' : World} {v : Value} (h : ((ReflectliteType.relation "Implements" ReflectliteType.implements_) args).run Tryz.prog w = .ok v w') : (callFunc 362 args).run Tryz.prog w = .ok (.value v) w' :=
 eh (e := (ReflectliteType.relation "Implements" ReflectliteType.implements_)) Tryz.func362 (by kernel_rfl) (by kernel_rfl) (by kernel_rfl) (by kernel_rfl) h
theorem mu (w : World) : (callFunc 362 #[.agg #[db 159], rt 109]).run Tryz.prog w = .ok (.value (.bool true)) w := Bv (by kernel_rfl)
theorem Bu {args : Array Value} {w w' : World} {v : Value} (h : (ReflectliteType.typeOf args).run Tryz.prog w = .ok v w') : (callFunc 148 args).run Tryz.prog w = .ok (.value v) w' :=
 eh (e := ReflectliteType.typeOf) Tryz.func148 (by kernel_rfl) (by kernel_rfl) (by kernel_rfl) (by kernel_rfl) h
theorem Ak (v : Value) (w : World) : (callFunc 148 #[.iface 159 v]).run Tryz.prog w = .ok (.value (rt 159)) w := Bu (by kernel_rfl)
theorem x9 {args : Array Value} {w w' : World} {v : Value} (h : ((ReflectliteType.relation "AssignableTo" ReflectliteType.assignableTo) args).run Tryz.prog w = .ok v w') : (callFunc 359 args).run Tryz.prog w = .ok (.value v) w' :=
 eh (e := (ReflectliteType.relation "AssignableTo" ReflectliteType.assignableTo)) Tryz.func359 (by kernel_rfl) (by kernel_rfl) (by kernel_rfl) (by kernel_rfl) h
theorem s7 (w : World) : (callFunc 359 #[.agg #[db 159], rt 159]).run Tryz.prog w = .ok (.value (.bool true)) w := x9 (by kernel_rfl)
theorem find7 {args : Array Value} {w w' : World} {v : Value} (h : ((ReflectliteType.method fun t => do Rtype.noPackHeld "Comparable" t; pure (.bool (← typeInfo t).comparable)) args).run Tryz.prog w = .ok v w') : (callFunc 360 args).run Tryz.prog w = .ok (.value v) w' :=
 eh (e := (ReflectliteType.method fun t => do Rtype.noPackHeld "Comparable" t; pure (.bool (← typeInfo t).comparable))) Tryz.func360 (by kernel_rfl) (by kernel_rfl) (by kernel_rfl) (by kernel_rfl) h
theorem vX (t : Nat) (w : World) : (callFunc 144 #[.iface 165 (.pointer (some ⟨t, 0, none⟩))]).run Tryz.prog w = .ok (.value (rv 165 w.heap.size 150)) (w.alloc (.cells #[.pointer (some ⟨t, 0, none⟩)] 165)) := uT (by kernel_rfl)
theorem yM (x : Int) (w : World) : (callFunc 144 #[.iface 48 (.int .i64 x)]).run Tryz.prog w = .ok (.value (rv 48 w.heap.size 130)) (w.alloc (.cells #[.int .i64 x] 48)) := uT (by kernel_rfl)
theorem BI (b : Nat) (w : World) : (callFunc 145 #[rv 165 b 150]).run Tryz.prog w = .ok (.value (rt 165)) w := Bx (by kernel_rfl)
theorem B8 (w : World) : (callFunc 322 #[db 165]).run Tryz.prog w = .ok (.value (.int .u8 22)) w := uS (by kernel_rfl)
theorem kindN (w : World) : (callFunc 322 #[db 48]).run Tryz.prog w = .ok (.value (.int .u8 2)) w := uS (by kernel_rfl)
theorem Cn (w : World) : (callFunc 361 #[.agg #[db 165]]).run Tryz.prog w = .ok (.value (rt 48)) w := Bw (by kernel_rfl)
theorem sJ (w : World) : (callFunc 362 #[.agg #[db 48], rt 109]).run Tryz.prog w = .ok (.value (.bool true)) w := Bv (by kernel_rfl)
theorem mP (v : Value) (w : World) : (callFunc 148 #[.iface 48 v]).run Tryz.prog w = .ok (.value (rt 48)) w := Bu (by kernel_rfl)
theorem s6 (w : World) : (callFunc 359 #[.agg #[db 48], rt 48]).run Tryz.prog w = .ok (.value (.bool true)) w := x9 (by kernel_rfl)
theorem mH (w : World) : (callFunc 360 #[.agg #[db 48]]).run Tryz.prog w = .ok (.value (.bool true)) w := find7 (by kernel_rfl)
theorem qU (w : World) : (callFunc 359 #[.agg #[db 48], rt 159]).run Tryz.prog w = .ok (.value (.bool false)) w := x9 (by kernel_rfl)
theorem rlm (z : Sem Value) (f : TypeId → Addr → Nat → Nat → Sem Value) (v : Value) :
 ReflectliteValue.method z f #[v] = (do match ← ReflectliteValue.parts v with | none => z | some (t, a, fl) => f t a fl (fl % 32)) := rfl
theorem rls (v x : Value) : ReflectliteValue.set #[v, x] = (do
 let (some (dst, a, fl), some (src, b, _)) := (← ReflectliteValue.parts v, ← ReflectliteValue.parts x)
  | unsupported (.noEntry "extern/(internal/reflectlite.Value).Set.zeroValue")
 if fl / ReflectliteValue.flagAddr % 2 == 0 then unsupported (.noEntry "extern/(internal/reflectlite.Value).Set.unaddressable")
 let val ← loadVar src b
 if ← Rtype.directlyAssignable dst src then storeVar dst a val
 else if ← Rtype.implements dst src then
  if (← Rtype.kind src) == 20 then
   match val with
   | .nilIface => unsupported (.noEntry "extern/reflectlite: a nil value of one interface type handed on as a value of another")
   | _ => storeVar dst a val
  else storeVar dst a (.iface src val)
 else panicString ("reflectlite.Set: value of type " ++ (← Rtype.spelt src) ++ " is not assignable to type " ++ (← Rtype.spelt dst))
 pure (.tuple #[])) := rfl
theorem pD {args : Array Value} {w w' : World} {v : Value} (h : ((ReflectliteValue.method (ReflectliteValue.valueError "reflectlite.Value.IsNil" 0) ReflectliteValue.isNil) args).run Tryz.prog w = .ok v w') : (callFunc 146 args).run Tryz.prog w = .ok (.value v) w' :=
 eh (e := (ReflectliteValue.method (ReflectliteValue.valueError "reflectlite.Value.IsNil" 0) ReflectliteValue.isNil)) Tryz.func146 (by kernel_rfl) (by kernel_rfl) (by kernel_rfl) (by kernel_rfl) h
theorem rJ {args : Array Value} {w w' : World} {v : Value} (h : ((ReflectliteValue.method (ReflectliteValue.valueError "reflectlite.Value.Elem" 0) ReflectliteValue.elem) args).run Tryz.prog w = .ok v w') : (callFunc 197 args).run Tryz.prog w = .ok (.value v) w' :=
 eh (e := (ReflectliteValue.method (ReflectliteValue.valueError "reflectlite.Value.Elem" 0) ReflectliteValue.elem)) Tryz.func197 (by kernel_rfl) (by kernel_rfl) (by kernel_rfl) (by kernel_rfl) h
theorem vB {args : Array Value} {w w' : World} {v : Value} (h : (ReflectliteValue.set args).run Tryz.prog w = .ok v w') : (callFunc 198 args).run Tryz.prog w = .ok (.value v) w' :=
 eh (e := ReflectliteValue.set) Tryz.func198 (by kernel_rfl) (by kernel_rfl) (by kernel_rfl) (by kernel_rfl) h
theorem vm (b : Nat) (w : World) : (ReflectliteValue.parts (rv 161 b 150)).run Tryz.prog w = .ok (some (161, ⟨b, 0, none⟩, 150)) w := by kernel_rfl
theorem Ay (b : Nat) (w : World) : (ReflectliteValue.parts (rv 159 b 406)).run Tryz.prog w = .ok (some (159, ⟨b, 0, none⟩, 406)) w := by kernel_rfl
theorem Aw (b : Nat) (w : World) : (ReflectliteValue.parts (rv 159 b 150)).run Tryz.prog w = .ok (some (159, ⟨b, 0, none⟩, 150)) w := by kernel_rfl
theorem mkF (b : Nat) (w : World) : (ReflectliteValue.mk 159 ⟨b, 0, none⟩ ReflectliteValue.flagAddr).run Tryz.prog w = .ok (rv 159 b 406) w := by kernel_rfl
theorem AZ (w : World) : (Rtype.elem? 161).run Tryz.prog w = .ok (some 159) w := by kernel_rfl
theorem Bc (w : World) : (Rtype.directlyAssignable 159 159).run Tryz.prog w = .ok true w := by kernel_rfl
theorem vy (a p : Nat) (w : World) (ha : bI ⟨a, 0, none⟩ (.pointer (some ⟨p, 0, none⟩)) w) : (callFunc 146 #[rv 161 a 150]).run Tryz.prog w = .ok (.value (.bool false)) w :=
 pD (by
  rw [rlm]
  simp only [Sem.run_bind, vm, Result.andThen]
  have := dK (P := Tryz.prog) (t := 161) (by kernel_rfl) ha
  simp [ReflectliteValue.isNil, this, Result.andThen])
theorem Cm (a p : Nat) (w : World) (ha : bI ⟨a, 0, none⟩ (.pointer (some ⟨p, 0, none⟩)) w) : (callFunc 197 #[rv 161 a 150]).run Tryz.prog w = .ok (.value (rv 159 p 406)) w :=
 rJ (by
  rw [rlm]
  simp only [Sem.run_bind, vm, Result.andThen]
  have := dK (P := Tryz.prog) (t := 161) (by kernel_rfl) ha
  simp [ReflectliteValue.elem, this, Result.andThen, AZ, mkF])
theorem setF (ta b : Nat) (e : Addr) (old : Value) (w : World) (hb : bI ⟨b, 0, none⟩ (.pointer (some e)) w) (ht : w.heap[ta]? = some (.cells #[old] 159)) :
 (callFunc 198 #[rv 159 ta 406, rv 159 b 150]).run Tryz.prog w = .ok (.value (.tuple #[])) (w.setCell ⟨ta, 0, none⟩ (.pointer (some e))) :=
 vB (by
  rw [rls]
  simp only [Sem.run_bind, Ay, Aw, Result.andThen]
  have h1 := dK (P := Tryz.prog) (t := 159) (by kernel_rfl) hb
  have h2 := gW (P := Tryz.prog) (i := 0) (v := .pointer (some e)) ht (by simp) rfl
  have h3 := bP (P := Tryz.prog) (t := 159) (n := 1) (by unfold bZ; kernel_rfl) w
  simp [ReflectliteValue.flagAddr, h1, Result.andThen, Bc, storeVar, Value.cells, storeCells, Addr.add, h2, h3])
theorem vl (b : Nat) (w : World) : (ReflectliteValue.parts (rv 165 b 150)).run Tryz.prog w = .ok (some (165, ⟨b, 0, none⟩, 150)) w := by kernel_rfl
theorem Ax (b : Nat) (w : World) : (ReflectliteValue.parts (rv 48 b 386)).run Tryz.prog w = .ok (some (48, ⟨b, 0, none⟩, 386)) w := by kernel_rfl
theorem Av (b : Nat) (w : World) : (ReflectliteValue.parts (rv 48 b 130)).run Tryz.prog w = .ok (some (48, ⟨b, 0, none⟩, 130)) w := by kernel_rfl
theorem mkN (b : Nat) (w : World) : (ReflectliteValue.mk 48 ⟨b, 0, none⟩ ReflectliteValue.flagAddr).run Tryz.prog w = .ok (rv 48 b 386) w := by kernel_rfl
theorem AY (w : World) : (Rtype.elem? 165).run Tryz.prog w = .ok (some 48) w := by kernel_rfl
theorem Bb (w : World) : (Rtype.directlyAssignable 48 48).run Tryz.prog w = .ok true w := by kernel_rfl
theorem AN (a p : Nat) (w : World) (ha : bI ⟨a, 0, none⟩ (.pointer (some ⟨p, 0, none⟩)) w) : (callFunc 146 #[rv 165 a 150]).run Tryz.prog w = .ok (.value (.bool false)) w :=
 pD (by
  rw [rlm]
  simp only [Sem.run_bind, vl, Result.andThen]
  have := dK (P := Tryz.prog) (t := 165) (by kernel_rfl) ha
  simp [ReflectliteValue.isNil, this, Result.andThen])
theorem Cl (a p : Nat) (w : World) (ha : bI ⟨a, 0, none⟩ (.pointer (some ⟨p, 0, none⟩)) w) : (callFunc 197 #[rv 165 a 150]).run Tryz.prog w = .ok (.value (rv 48 p 386)) w :=
 rJ (by
  rw [rlm]
  simp only [Sem.run_bind, vl, Result.andThen]
  have := dK (P := Tryz.prog) (t := 165) (by kernel_rfl) ha
  simp [ReflectliteValue.elem, this, Result.andThen, AY, mkN])
theorem setN (ta b : Nat) (e : Int) (old : Value) (w : World) (hb : bI ⟨b, 0, none⟩ (.int .i64 e) w) (ht : w.heap[ta]? = some (.cells #[old] 48)) :
 (callFunc 198 #[rv 48 ta 386, rv 48 b 130]).run Tryz.prog w = .ok (.value (.tuple #[])) (w.setCell ⟨ta, 0, none⟩ (.int .i64 e)) :=
 vB (by
  rw [rls]
  simp only [Sem.run_bind, Ax, Av, Result.andThen]
  have h1 := dK (P := Tryz.prog) (t := 48) (by kernel_rfl) hb
  have h2 := gW (P := Tryz.prog) (i := 0) (v := .int .i64 e) ht (by simp) rfl
  have h3 := bP (P := Tryz.prog) (t := 48) (n := 1) (by unfold bZ; kernel_rfl) w
  simp [ReflectliteValue.flagAddr, h1, Result.andThen, Bb, storeVar, Value.cells, storeCells, Addr.add, h2, h3])
end Go.Proofs.YtmeegfamopaljaaGreatDoor

namespace Go.Proofs.YtmeegfamopaljaaGreatDoor
open Go Go.RowKit Go.SL
open FK (dy ch bK)
set_option maxRecDepth 10000 in
set_option maxHeartbeats 1000000 in
theorem rs {G : Env → Prop} {S : FK.WS} {a b : List FK.Tmr} {t : FK.Tmr} {rest : List Nat} (w : Nat) (h : FK.Inv S (t.blk :: rest)) (hS : S.tms = a ++ t :: b) (hsq : S.seq < 9223372036854775808) (hln : S.tms.length ≤ 99999)
 (hlow : ∀ u ∈ S.tms, u.blk ∉ t.blk :: rest → u.pos = (t.place S.now).pos → u.seq < t.seq) :
 Does Tryz.prog G 203 [aL w, aL t.blk].toArray [bw w S] fun v m => v = .tuple #[] ∧ m = [bw w (S.put a t b)] := by
 have htm : t ∈ S.tms := by rw [hS]; simp
 obtain ⟨k1, k2, k3⟩ := FK.nr h htm
 obtain ⟨hab, hbb⟩ := FK.fP (f := FK.Tmr.blk) (t := t) (by rw [← hS]; exact h.blks)
 obtain ⟨lv, hlv⟩ : ∃ lv, lv = FK.gi S.now t.due := ⟨_, rfl⟩
 obtain ⟨st, hst⟩ : ∃ st, st = FK.td lv t.due := ⟨_, rfl⟩
 obtain ⟨k, hk⟩ : ∃ k, k = 64 * lv + st := ⟨_, rfl⟩
 have hpl : t.place S.now = { t with lvl := lv, slot := st } := by subst hst; subst hlv; rfl
 have hkp : (t.place S.now).pos = k := by rw [hpl, hk]; rfl
 rw [hpl] at k1 k2
 replace k1 : lv < 11 := k1
 replace k2 : st < 64 := k2
 rw [hkp] at k3 hlow
 have hdue := h.due t htm
 have hnow : S.now ≤ t.due := hdue.1
 have hd62 : t.due ≤ 4611686018427387904 := hdue.2
 have hxl : t.due ^^^ S.now < 18446744073709551616 := Nat.xor_lt_two_pow (n := 64) (show t.due < 18446744073709551616 by omega) (show S.now < 18446744073709551616 by omega)
 have h64 := zn hxl
 have hlev : (dk (t.due ^^^ S.now) - 1) / 6 = lv := by rw [AL, hlv]; rfl
 have hslot : t.due / 2 ^ (6 * lv) % 64 = st := by rw [hst, ← FK.m5]; rfl
 have hdiv : t.due / 2 ^ (6 * lv) ≤ t.due := Nat.div_le_self _ _
 have hsl := np h (by omega) k3
 have hus := h.uslt lv k1
 have htq := h.seqle t htm
 have hmemS : ∀ x ∈ S.bs k, ∃ u ∈ a ++ b, u.blk = x := fun x hx => by
  obtain ⟨u, hu, e, _, hun⟩ := h.of_slot k3 hx
  rw [hS] at hu
  rcases List.mem_append.1 hu with hu | hu
  · exact ⟨u, by simp [hu], e⟩
  · rcases List.mem_cons.1 hu with rfl | hu
    · simp at hun
    · exact ⟨u, by simp [hu], e⟩
 have hbel : Below' (gk (a ++ b)) (S.bs k) (Ae (a ++ b)) t.seq := tJ hmemS fun u hu hin => by
  have hum : u ∈ S.tms := by
   rw [hS]
   rcases List.mem_append.1 hu with hu | hu <;> simp [hu]
  obtain ⟨x, hx, e, hp, hun⟩ := h.of_slot k3 hin
  have : x = u := FK.eg h.blks hx hum e
  subst this
  exact hlow x hum hun hp
 obtain ⟨q, hq⟩ : ∃ q, q = t.due / 2 ^ (6 * lv) := ⟨_, rfl⟩
 rw [← hq] at hslot hdiv
 have hp2 : (2 : Nat) ^ st < 18446744073709551616 := Nat.pow_lt_pow_right (a := 2) (m := st) (n := 64) (by omega) k2
 have hput : S.put a t b = { S with us := dy S.us lv (S.us lv ||| 2 ^ st), bs := dy S.bs k (S.bs k ++ [t.blk]), tms := a ++ { t with lvl := lv, slot := st } :: b } := by
  unfold FK.WS.put
  rw [hkp, hpl]
 have hby : fk (a ++ t :: b) = fk (a ++ { t with lvl := lv, slot := st } :: b) := by simp [fk]
 clear hdue
 refine Does.body Tryz.func203 Z Z fun E fr hE => ?_
 refine ai (dO .head fun sl mp => ?_)
 rw [hS]
 refine At.ent (l' := cA (sl k) (S.bs k) :: gP sl S.bs k :: d8 t :: gk (a ++ b) :: xM w S sl mp :: bF fZ mp (fk (a ++ t :: b)) :: fr) ?_ ?_
 · refine (Ent.perm (List.Perm.swap _ _ _)).trans ((i6 k3).trans (Ent.cons (Ent.cons ?_)))
   refine (Ent.perm (List.Perm.swap _ _ _)).trans (tmrs_open.trans ?_)
   exact Ent.refl _
 refine aJ .head ?_
 intro A c hA hnil hform hc1 hc2 _
 rw [hA]
 refine At.seq (Dr.start Z (dP 0 Z Z (ag Z) (dP 1 Z Z (ag Z) (dP 2 Z Z (aq Z) (dP 3 Z Z (ab (off := 3) Z Z) (dL 4 Z Z (aa Z Z) (ae Z) (dP 5 Z Z (ag Z) (dP 6 Z Z (aq Z) (dP 7 Z Z (ab (off := 0) Z Z) (dL 8 Z Z (aa Z Z) (ae (fN _ _ _ _ _)) ?_))))))))))
 refine dP 9 Z Z (Ch (r := ((t.due ^^^ S.now : Nat) : Int)) Z Z (Af (by omega) (by omega))) ?_
 refine dR 10 Z Z (ah Z Z Z hE (n5 _ hxl) (Ent.refl _) ?_)
 rintro v m ⟨rfl, rfl⟩
 refine ay ?_
 refine Dr.kept [true, true] (by kernel_rfl) (Kept.cons (ae (fN _ _ _ _ _)) (Kept.cons (ae Z) Kept.nil)) ?_
 refine dP 11 Z Z (eQ (r := ((dk (t.due ^^^ S.now) : Int) - 1)) Z Z (by rw [cT (by omega)])) ?_
 refine dP 12 Z Z (lG (r := ((dk (t.due ^^^ S.now) - 1 : Nat) : Int)) Z Z (by omega)) ?_
 refine dP 13 Z Z (kp (r := (lv : Int)) Z Z (by omega) (by rw [← hlev, Int.tdiv_eq_ediv_of_nonneg (by omega), cT (by omega)]; omega)) ?_
 refine dP 14 Z Z (aq Z) (dP 15 Z Z (ab (off := 5) Z Z) ?_)
 refine dR 16 Z Z (bC Z Z Z Z Z (by first | decide | simp | (simp; omega)) ?_)
 refine Dr.kept [false, false] (by kernel_rfl) Kept.nil ?_
 refine dE (At.then (At.seq (Dr.start Z (dP 0 Z Z (ag Z) (dP 1 Z Z (ag Z) (dP 2 Z Z (aq Z) (dP 3 Z Z (ab (off := 3) Z Z) (dL 4 Z Z (aa Z Z) (ae Z) (dP 5 Z Z (ag Z) (dP 6 Z Z (aq Z) (dP 7 Z Z (ab (off := 5) Z Z) (dL 8 Z Z (aa Z Z) (ae Z) ?_))))))))))))
 refine dP 9 Z Z (lF (r := ((6 * lv : Nat) : Int)) Z Z (by rw [cT (by omega)]; simp)) ?_
 refine dP 10 Z Z (ed (r := (q : Int)) Z Z (by omega) (by rw [hq]; exact kI t.due (6 * lv) (by omega) (by omega))) ?_
 refine dP 11 Z Z (bq (r := (q : Int)) Z Z Z (cT (by omega))) ?_
 refine dP 12 Z Z (gO (r := (st : Int)) Z Z (by omega) (by rw [Int.tmod_eq_emod_of_nonneg (by omega)]; omega)) ?_
 refine dP 13 Z Z (aq Z) (dP 14 Z Z (ab (off := 6) Z Z) ?_)
 refine dR 15 Z Z (bC Z Z Z Z Z (by first | decide | simp | (simp; omega)) ?_)
 refine Dr.kept [false, false] (by kernel_rfl) Kept.nil ?_
 refine dE (At.then (At.seq (Dr.start Z (dP 0 Z Z (ag Z) (dP 1 Z Z (ag Z) (dP 2 Z Z (aq Z) (dP 3 Z Z (ab (off := 5) Z Z) (dL 4 Z Z (aa Z Z) (ae Z) (dP 5 Z Z (ag Z) (dP 6 Z Z (aq Z) (dP 7 Z Z (ab (off := 6) Z Z) (dL 8 Z Z (aa Z Z) (ae Z) (dP 9 Z Z (aq Z) (dP 10 Z Z (ab (off := 2) Z Z) ?_))))))))))))))
 refine dP 11 Z Z (di (i := lv) (z := 64) (o' := 2 + 64 * lv) Z Z Z Z k1 (by omega)) ?_
 refine dP 12 Z Z (di (i := st) (z := 1) (o' := 2 + k) Z Z Z Z k2 (by omega)) ?_
 refine dP 13 Z Z (az Z) (dE (At.then (At.seq (Dr.start Z (dP 0 Z Z (ag Z) (dP 1 Z Z (aq Z) ?_))))))
 refine dL 2 Z Z (aa (v := .slice A (S.bs k).length c) Z Z) (ae (by rw [gB _ _ _ _ _ k3, hA])) ?_
 refine dP 3 Z Z (ag Z) (dP 4 Z Z (aq Z) (dP 5 Z Z (ab (off := 4) Z Z) (dL 6 Z Z (aa Z Z) (ae Z) ?_)))
 refine dR 7 Z Z (ah Z Z Z hE (tT hbel (by omega) hsl) (aK (.tail (.head)) (.tail (.tail (.head)))) ?_)
 rintro v m ⟨rfl, rfl⟩
 refine aF ?_
 refine Dr.kept [false, false] (by kernel_rfl) Kept.nil ?_
 refine dP 8 Z Z (ag Z) (dP 9 Z Z (aU Z Z) (dP 10 Z Z (aU Z Z) (dP 11 Z Z (az Z) (dP 12 Z Z (az Z) (dE (At.then (At.seq (At.region (L.mv Z Z (L.mv Z Z (aN Z Z ?_)))))))))))
 refine L.val Z (aa (v := .slice A (S.bs k).length c) Z Z) (ae (by rw [gB _ _ _ _ _ k3, hA])) ?_
 refine L.mv Z Z (L.mv Z Z (L.op Z (cK Z Z Z Z Z Z fun g => (L.op Z (ah Z Z Z hE (ul hsl) (aK (.tail (.head)) .head) ?_)))))
 rintro v m ⟨⟨A', c', rfl⟩, rfl⟩
 refine ai (aN Z Z ?_)
 refine L.st Z Z Z Z (by rw [ee]; omega) ?_
 rw [iq, ks _ _ _ _ _ k3]
 refine L.nil (At.then (Dr.start Z (dP 0 Z Z (ag Z) (dP 1 Z Z (ag Z) (dP 2 Z Z (aq Z) (dP 3 Z Z (ab (off := 5) Z Z) (dL 4 Z Z (aa Z Z) (ae Z) (dP 5 Z Z (aq Z) (dP 6 Z Z (ab (off := 706) Z Z) ?_)))))))))
 refine dP 7 Z Z (di (i := lv) (z := 1) (o' := 706 + lv) Z Z Z Z k1 (by omega)) ?_
 refine dL 8 Z Z (aa Z Z) (ae (jS _ _ _ _ _ k1)) (dP 9 Z Z (ag Z) (dP 10 Z Z (aq Z) (dP 11 Z Z (ab (off := 6) Z Z) (dL 12 Z Z (aa Z Z) (ae Z) ?_))))
 refine dP 13 Z Z (js (r := ((2 ^ st : Nat) : Int)) Z Z (by omega) (qi k2)) ?_
 refine dP 14 Z Z (re (r := ((S.us lv ||| 2 ^ st : Nat) : Int)) Z Z (yq hus hp2)) ?_
 refine dP 15 Z Z (aq Z) (dP 16 Z Z (ab (off := 706) Z Z) ?_)
 refine dP 17 Z Z (di (i := lv) (z := 1) (o' := 706 + lv) Z Z Z Z k1 (by omega)) ?_
 refine dR 18 Z Z (bC Z Z Z Z Z (by rw [ee]; omega) ?_)
 rw [iq, kr _ _ _ _ _ k1]
 refine Dr.kept [false, false, false] (by kernel_rfl) Kept.nil ?_
 refine dE ?_
 rw [hput]
 refine aZ [_] rfl ⟨rfl, rfl⟩ ?_
 rw [hby]
 refine (aK (.tail (.head)) (.tail (.tail (.tail (.head))))).trans ((ga k3).trans ?_)
 refine (aK (p := d8 { t with lvl := lv, slot := st }) (.tail (.tail (.tail (.head)))) (.tail (.tail (.head)))).trans (tmrs_close.trans ?_)
 exact (aK (.tail (.tail (.head))) (.tail (.head))).trans (bY (S := { S with us := dy S.us lv (S.us lv ||| 2 ^ st), bs := dy S.bs k (S.bs k ++ [t.blk]), tms := a ++ { t with lvl := lv, slot := st } :: b }) (sl := dy sl k _) (mp := mp))
def Bn (us : Nat → Nat) (v : Value) : Prop :=
 ∃ (l s : Nat) (any : Bool), v = .tuple #[.int .i64 (l : Int), .int .i64 (s : Int), .bool any] ∧
  (any = true → l < 11 ∧ s < 64 ∧ (us l).testBit s = true ∧ (∀ j, j < s → (us l).testBit j = false) ∧ ∀ k, k < l → us k = 0) ∧ (any = false → ∀ k, k < 11 → us k = 0)
def BB (us : Nat → Nat) : List Value := (List.range 11).map fun l => .int .u64 (us l)
theorem yf (us : Nat → Nat) {l : Nat} (h : l < 11) : (BB us)[l]? = some (.int .u64 (us l)) := by simp [BB, h]
theorem BH (us : Nat → Nat) {l : Nat} {v : Value} (h : (BB us)[l]? = some v) : l < 11 := by
 have := (List.getElem?_eq_some_iff.1 h).1
 simpa [BB] using this
set_option maxRecDepth 10000 in
set_option maxHeartbeats 1000000 in
theorem uv (w now seq : Nat) (sl : Nat → Value) (us : Nat → Nat) (mp : Nat) (hus : ∀ l, l < 11 → us l < 18446744073709551616) :
 Does Tryz.prog Good 260 [aL w].toArray [blk w 337 (wc (dh now seq sl us mp))] fun v m => Bn us v ∧ m = [blk w 337 (wc (dh now seq sl us mp))] := by
 refine Does.body Tryz.func260 Z Z fun E fr hE => ?_
 refine ai (At.seq (At.region (L.as Z Z (L.as Z Z (L.as Z Z (L.nil (At.then (At.seq (At.seq (At.region (L.mv Z Z (aN Z Z (aE 706 Z Z Z ?_)))))))))))))
 refine L.val rfl (am (n := 11) (vs := BB us) rfl rfl (by simp [BB]) rfl) (uO (fun j v hj => by have hl := BH us hj; rw [yf us hl] at hj; injection hj with hj; subst hj; exact jS _ _ _ _ _ hl)) ?_
 refine L.mv Z Z (L.nil (At.then (At.block ?_)))
 refine aT (X := Nat) (fun i => [(11, .int .i64 i), (10, .agg (BB us).toArray), (0, aL w)]) (fun _ => blk w 337 (wc (dh now seq sl us mp)) :: fr) (fun i => i ≤ 11 ∧ ∀ k, k < i → us k = 0) (fun i => 11 - i) 0 ⟨by omega, by simp⟩ ⟨rfl, rfl, rfl, trivial⟩ (Ent.refl _) ?_
 rintro i ⟨hi, hno⟩
 refine At.seq (At.region (L.pure Z (bf Z Z Z) (L.nil (At.then (At.seq ?_)))))
 refine aC Z (fun c12 => ?_) (fun c12 => ?_)
 ·
  have hlt : i < 11 := by omega
  have hui := hus i hlt
  refine At.skip (At.then (At.seq (At.block (At.seq (At.region (L.mv Z Z ?_))))))
  refine L.pure Z (nC (v := .int .u64 (us i)) Z Z Z Z Z hlt (by simpa using yf us hlt)) ?_
  refine L.as Z Z (L.as Z Z (L.nil (At.then (At.seq (At.region (L.mv Z Z (L.pure Z (cr Z Z Z) (L.nil (At.then ?_)))))))))
  refine aC Z (fun c16 => ?_) (fun c16 => ?_)
  ·
   have hne : us i ≠ 0 := by omega
   have hlow := jQ (us i) hui hne
   refine At.seq (At.region (L.mv Z Z (L.mv Z Z ?_)))
   refine L.op Z (B2 Z Z Z (fun w hw => (nP (us i) hui hne w (hE.tab w hw.is)).mono fun e w' ⟨he, hw'⟩ => ⟨_, he, (rfl : _ = Value.int .i64 ((Lib.ctz 64 (us i) : Nat) : Int)), hw' ▸ Below.refl _ _⟩) ?_)
   rintro v rfl
   refine L.as Z Z (L.as Z Z (L.as Z Z (L.nil (At.then (At.ret (aB (aI (bT (aB (aI ?_))))))))))
   exact fW [_] rfl rfl rfl rfl ⟨⟨i, _, true, rfl, (fun _ => ⟨hlt, hlow.2.2, hlow.1, hlow.2.1, hno⟩), (fun h => by cases h)⟩, rfl⟩ (Ent.refl _)
  ·
   refine At.skip (al (At.then (At.region ?_)))
   refine L.pure Z (aO Z Z (cT (by omega))) ?_
   refine L.mv Z Z (L.nil ?_)
   exact At.round (i + 1) ⟨by omega, fun k hk => by rcases Nat.lt_or_ge k i with h | h; exact hno k h; obtain rfl : k = i := (by omega); omega⟩ (by omega) ⟨rfl, rfl, rfl, trivial⟩ (Ent.refl _)
 ·
  refine At.exit (au (ar (an (At.then (At.seq (At.region (L.as Z Z (L.as Z Z (L.as Z Z (L.nil (At.then (At.ret ?_))))))))))))
  exact fW [_] rfl rfl rfl rfl ⟨⟨0, 0, false, rfl, (fun h => by cases h), fun _ k hk => hno k (by omega)⟩, rfl⟩ (Ent.refl _)
end Go.Proofs.YtmeegfamopaljaaGreatDoor
