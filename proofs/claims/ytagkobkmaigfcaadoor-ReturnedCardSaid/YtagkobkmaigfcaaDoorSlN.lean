/- Stores into rows that are owned. -/
import Derived.Test.YtagkobkmaigfcaaDoorSlM
import Derived.Test.YtagkobkmaigfcaaDoorSlG
namespace Go.SL
open Go Go.RowKit

/-- some values of a list turned -/
def lset {α : Type} : List α → Nat → List α → List α
  | xs, _, [] => xs
  | xs, o, v :: vs => lset (xs.set o v) (o + 1) vs

theorem lset_length {α : Type} : ∀ (vs xs : List α) (o : Nat), (lset xs o vs).length = xs.length
  | [], _, _ => rfl
  | v :: vs, xs, o => by simp [lset, lset_length vs]
theorem lset_off {α : Type} : ∀ (vs xs : List α) (o j : Nat), (j < o ∨ o + vs.length ≤ j) → (lset xs o vs)[j]? = xs[j]?
  | [], _, _, _, _ => rfl
  | v :: vs, xs, o, j, h => by
    simp only [lset]
    rw [lset_off vs (xs.set o v) (o + 1) j (by simp at h; omega), List.getElem?_set_ne (by simp at h; omega)]
theorem lset_in {α : Type} : ∀ (vs xs : List α) (o j : Nat) (u : α), o + vs.length ≤ xs.length → vs[j]? = some u → (lset xs o vs)[o + j]? = some u
  | [], _, _, _, _, _, h => by simp at h
  | v :: vs, xs, o, 0, u, hl, h => by
    simp at h hl; subst h
    simp only [lset]
    rw [lset_off vs (xs.set o v) (o + 1) (o + 0) (by omega)]
    simp only [Nat.add_zero] at hl ⊢
    exact List.getElem?_set_self (by omega)
  | v :: vs, xs, o, j + 1, u, hl, h => by
    simp only [lset]
    have := lset_in vs (xs.set o v) (o + 1) j u (by simp at hl ⊢; omega) (by simpa using h)
    rw [show o + (j + 1) = o + 1 + j by omega]
    exact this
theorem lset_take {α : Type} : ∀ (vs xs : List α) (o k : Nat), (lset xs o vs).take k = lset (xs.take k) o vs
  | [], _, _, _ => rfl
  | v :: vs, xs, o, k => by simp only [lset]; rw [lset_take vs, List.take_set]
theorem setRow_list : ∀ (vs : List Value) (cs : Array Value) (o : Nat), (setRow cs o vs).toList = lset cs.toList o vs
  | [], _, _ => rfl
  | v :: vs, cs, o => by simp only [setRow, lset]; rw [setRow_list vs]; simp

section
variable {P : Program} {E : Env} {n : Nat} {D : List Deferred} {ts : List (Nat × Value)} {l : List HP} {ops : Array Oper} {Q : Exit → Act → World → Prop} {ty : TypeId} {pos : String} {af : Array Edge} {gd : Option (Nat × Bool)}

/-- one cell of a row -/
theorem o_storeRow {t e : TypeId} {x y : Operand} {g o m c size : Nat} {v : Value} {xs : List Value} {r : List HP} {K : Act → World → Prop} (s : Sel (row e size (.slice (some ⟨g, 0, none⟩) m c) m xs) l r) (hz : sizeIs P t 1) (hx : ev ts x = some (.pointer (some ⟨g, o, none⟩))) (hy : ev ts y = some v) (hv : v.oneCell' = true)
    (ho : o < m * size) (h : At E n D ts (row e size (.slice (some ⟨g, 0, none⟩) m c) m (xs.set o v) :: r) K) : At E n D ts l (fun a w => (Oper.mk none (.store t x y) ty pos af gd).wp P a w K Q) := by
  refine At.openRow s (fun h _ _ => by cases h) ?_
  intro g' cap cur hg _ hm hc hs ht
  injection hg with hg _ hcap
  injection hg with hg
  injection hg with hg
  subst hg; subst hcap
  have hoc : o < cur.size := by rw [hs]; exact Nat.lt_of_lt_of_le ho (Nat.mul_le_mul_right _ hm)
  refine o_store1 rfl hz hx hy hv hoc (At.ent (Ent.closeRow hm hc (by rw [Array.size_setIfInBounds]; exact hs) ?_) h)
  rw [Array.toList_setIfInBounds, List.take_set, ht]
/-- some cells of a row -/
theorem o_storeRowN {t e : TypeId} {x y : Operand} {g o m c size k : Nat} {vs xs : List Value} {r : List HP} {K : Act → World → Prop} (s : Sel (row e size (.slice (some ⟨g, 0, none⟩) m c) m xs) l r) (hz : sizeIs P t k) (hk : vs.length = k) (hx : ev ts x = some (.pointer (some ⟨g, o, none⟩))) (hy : ev ts y = some (.agg vs.toArray)) (hv : ∀ u ∈ vs, u.oneCell' = true)
    (ho : o + k ≤ m * size) (h : At E n D ts (row e size (.slice (some ⟨g, 0, none⟩) m c) m (lset xs o vs) :: r) K) : At E n D ts l (fun a w => (Oper.mk none (.store t x y) ty pos af gd).wp P a w K Q) := by
  refine At.openRow s (fun h _ _ => by cases h) ?_
  intro g' cap cur hg _ hm hc hs ht
  injection hg with hg _ hcap
  injection hg with hg
  injection hg with hg
  subst hg; subst hcap
  have hoc : o + k ≤ cur.size := by rw [hs]; exact Nat.le_trans ho (Nat.mul_le_mul_right _ hm)
  refine o_storeN rfl hz hx hy hk hv (by omega) (At.ent (Ent.closeRow hm hc (by rw [setRow_size]; exact hs) ?_) h)
  rw [setRow_list, lset_take, ht]
end
end Go.SL
