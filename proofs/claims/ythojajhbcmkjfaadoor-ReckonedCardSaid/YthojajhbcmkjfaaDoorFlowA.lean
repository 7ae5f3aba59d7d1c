/- The walk of flow.Bound. -/
import Derived.Test.YthojajhbcmkjfaaDoorMem
namespace Go.Proofs.YthojajhbcmkjfaaDoor
open Go Go.RowKit

def boundSum (gap : Int) : List FK.Node → Int
  | [] => 0
  | n :: l => n.budget * (n.close + n.cap + n.jitter + gap) + boundSum gap l

theorem boundSum_append (gap : Int) (a b : List FK.Node) : boundSum gap (a ++ b) = boundSum gap a + boundSum gap b := by
  induction a with
  | nil => simp [boundSum]
  | cons n a ih => simp [boundSum, ih]; omega

theorem boundSum_take (gap : Int) (l : List FK.Node) (k : Nat) (h : k < l.length) : boundSum gap (l.take (k + 1)) = boundSum gap (l.take k) + l[k].budget * (l[k].close + l[k].cap + l[k].jitter + gap) := by
  rw [List.take_succ_eq_append_getElem h, boundSum_append]; simp [boundSum]

theorem boundTerm {n : FK.Node} (h : FK.NodeOk n) {gap : Int} (hg0 : 0 ≤ gap) (hg1 : gap ≤ 1048576) : 0 ≤ n.budget * (n.close + n.cap + n.jitter + gap) ∧ n.budget * (n.close + n.cap + n.jitter + gap) ≤ 20971520 := by
  obtain ⟨a1, a2, ⟨b1, b2⟩, ⟨c1, c2⟩, ⟨d1, d2⟩, ⟨e1, e2⟩, f1, f2⟩ := h
  have hs0 : 0 ≤ n.close + n.cap + n.jitter + gap := by omega
  have hs1 : n.close + n.cap + n.jitter + gap ≤ 4194304 := by omega
  refine ⟨Int.mul_nonneg (by omega) hs0, ?_⟩
  have := Int.mul_le_mul a2 hs1 hs0 (by omega)
  omega

set_option maxHeartbeats 1000000 in
theorem flow_Bound_calls (w : World) (B : Nat) (dl : Int) (A : Option Addr) (c : Nat) (l : List FK.Node) (gap : Int) (hB : B ≤ w.heap.size) (hn : NodesAt w B A c l) (hl : l.length ≤ 12)
    (ho : ∀ n ∈ l, FK.NodeOk n) (hg0 : 0 ≤ gap) (hg1 : gap ≤ 1048576) :
    Calls Tryd.prog 50 #[.agg #[.int .i64 dl, .slice A l.length c], .int .i64 gap] w fun e w' => e = .returned (.int .i64 (min (boundSum gap l) dl)) ∧ Below w.heap.size w w' := by
  obtain ⟨h1, h2, h3⟩ := hn
  go_enter Tryd.func50, Tryd.ntmps50
  go_wp2
  go_loopw [5, 11] (fun s i wr => ∃ k : Nat, k ≤ l.length ∧ i = .int .i64 k ∧ s = .int .i64 (boundSum gap (l.take k)) ∧ 0 ≤ boundSum gap (l.take k) ∧ boundSum gap (l.take k) ≤ k * 20971520 ∧ Below w.heap.size w wr ∧ w.heap.size < wr.heap.size ∧ wr.cell? ⟨w.heap.size, 0, none⟩ = some (.int .i64 dl)) (fun _ i _ => l.length - (intOf i).toNat)
  case atStart => exact ⟨0, by omega, rfl, by simp [boundSum], by simp [boundSum], by simp [boundSum], (Below.refl _ _).alloc (Nat.le_refl _) _, by simp, by go_simp⟩
  case round =>
    obtain ⟨k, hk, rfl, rfl, hs0, hs1, hb, hz, hdl⟩ := hrel
    by_cases hlt : k < l.length
    · obtain ⟨b, off, rfl, hbB, hcell⟩ := h3 (by omega)
      have hnode := hcell k l[k] (by simp [hlt])
      have hnode := hnode.keep (hb.to_same.mono hB) hbB
      obtain ⟨c0, c1, c2, c3, c4, c5, ⟨A6, n6, c6, hi⟩, hr⟩ := hnode
      have hok := ho l[k] (List.getElem_mem _)
      have hterm := boundTerm hok hg0 hg1
      have hnext := Lib.hid (boundSum_take gap l k hlt)
      obtain ⟨a1, a2, ⟨b1, b2⟩, ⟨d1, d2⟩, ⟨e1, e2⟩, ⟨f1, f2⟩, g1, g2⟩ := hok
      clear hcell h3 hr hi ho
      go_wp2
      go_roundw
      case rel => exact ⟨k + 1, by omega, by go_num, by rw [hnext.out], by rw [hnext.out]; omega, by rw [hnext.out]; omega, hb.alloc (by omega) _, by simp; omega, by go_simp⟩
      case measure => simp [intOf]; omega
    · have hke : List.take k l = l := List.take_of_length_le (by omega)
      rw [hke] at hs0 hs1 ⊢
      go_wp2
      all_goals (go_ret; exact ⟨ret_int (by omega), hb⟩)
end Go.Proofs.YthojajhbcmkjfaaDoor
