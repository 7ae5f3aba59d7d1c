/- The walks of flow.Rest and of the document's Rest: how long a node rests. -/
import Derived.Test.YthojajhbcmkjfaaDoorMem
namespace Go.Proofs.YthojajhbcmkjfaaDoor
open Go Go.RowKit

/-- how long: doubled for each failure behind the first, at most cap; and what seed leaves -/
def restOf (ba ca ji k seed : Int) : Int := (if k ≤ 1 then ba else if k < 22 then min ca (ba * 2 ^ (k.toNat - 1)) else ca) + seed % (ji + 1)

theorem pow_le_21 (n : Nat) (h : n ≤ 21) : (1 : Int) ≤ 2 ^ n ∧ (2 : Int) ^ n ≤ 2097152 := by
  have : ∀ n : Fin 22, (1 : Int) ≤ 2 ^ n.val ∧ (2 : Int) ^ n.val ≤ 2097152 := by decide
  exact this ⟨n, by omega⟩

theorem wrap_shl {ba : Int} {n : Nat} (h1 : 1 ≤ ba) (h2 : ba ≤ 1048576) (hn : n ≤ 21) : wrap64 (ba * 2 ^ n) = ba * 2 ^ n ∧ 1 ≤ ba * 2 ^ n ∧ ba * 2 ^ n ≤ 2199023255552 := by
  have ⟨p1, p2⟩ := pow_le_21 n hn
  have l1 : 1 ≤ ba * 2 ^ n := by have := Int.mul_le_mul h1 p1 (by omega) (by omega); omega
  have l2 : ba * 2 ^ n ≤ 2199023255552 := by have := Int.mul_le_mul h2 p2 (by omega) (by omega); omega
  exact ⟨IntWalk.wrap64_in _ ⟨by omega, by omega⟩, l1, l2⟩

theorem seed_mod {seed ji : Int} (h4 : 0 ≤ ji) (h5 : ji ≤ 1048576) : 0 ≤ seed % (ji + 1) ∧ seed % (ji + 1) ≤ 1048576 := by
  have h1 := Int.emod_nonneg seed (show ji + 1 ≠ 0 by omega)
  have h2 := Int.emod_lt_of_pos seed (show 0 < ji + 1 by omega)
  omega

set_option maxHeartbeats 400000 in
theorem flow_Rest_calls (bu cl be ba ca ji : Int) (A : Option Addr) (n c : Nat) (k seed : Int) (w : World)
    (h1 : 1 ≤ ba) (h2 : ba ≤ ca) (h3 : ca ≤ 1048576) (h4 : 0 ≤ ji) (h5 : ji ≤ 1048576) (hs0 : 0 ≤ seed) (hs1 : seed < 18446744073709551616) :
    Calls Tryd.prog 51 #[.agg #[.int .i64 bu, .int .i64 cl, .int .i64 be, .int .i64 ba, .int .i64 ca, .int .i64 ji, .slice A n c], .int .i64 k, .int .u64 seed] w
      fun e w' => e = .returned (.int .i64 (restOf ba ca ji k seed)) ∧ Below w.heap.size w w' := by
  have hm := seed_mod (seed := seed) h4 h5
  have HW : Hid (wrap64 (seed % (ji + 1)) = seed % (ji + 1)) := IntWalk.wrap64_in _ ⟨by omega, by omega⟩
  by_cases hk1 : k ≤ 1
  · have HR : Hid (restOf ba ca ji k seed = ba + seed % (ji + 1)) := by unfold restOf; rw [if_pos hk1]; rfl
    clear hm
    go_enter Tryd.func51, Tryd.ntmps51
    go_wp2
    all_goals
      go_quiet (fail)
      go_wp2
      all_goals
        go_ret
        have hm := seed_mod (seed := seed) h4 h5
        refine ⟨ret_int ?_, (by repeat (first | assumption | exact Below.refl _ _ | refine below_drewN ?_ _ | refine Below.drew ?_ | refine Below.alloc ?_ (by first | omega | (simp; done) | (simp; omega)) _ | refine Below.setCell ?_ (by first | omega | (simp; done) | (simp; omega)) _))⟩
        rw [HR.out, HW.out]
        rw [IntWalk.wrap64_in _ ⟨by omega, by omega⟩]
        try omega
  · by_cases hk2 : k < 22
    · have hp := wrap_shl (n := k.toNat - 1) h1 (by omega) (by omega)
      have HP := Lib.hid hp
      have HR : Hid (restOf ba ca ji k seed = min ca (ba * 2 ^ (k.toNat - 1)) + seed % (ji + 1)) := by unfold restOf; rw [if_neg hk1, if_pos hk2]; rfl
      clear hm hp
      go_enter Tryd.func51, Tryd.ntmps51
      go_wp2
      go_quiet (fail)
      go_wp2
      all_goals
        go_ret
        have hm := seed_mod (seed := seed) h4 h5
        have hp := HP.out
        refine ⟨ret_int ?_, (by repeat (first | assumption | exact Below.refl _ _ | refine below_drewN ?_ _ | refine Below.drew ?_ | refine Below.alloc ?_ (by first | omega | (simp; done) | (simp; omega)) _ | refine Below.setCell ?_ (by first | omega | (simp; done) | (simp; omega)) _))⟩
        simp only [HR.out, HW.out, hp.1] at *
        rw [IntWalk.wrap64_in _ ⟨by omega, by omega⟩]
        try omega
    · have HR : Hid (restOf ba ca ji k seed = ca + seed % (ji + 1)) := by unfold restOf; rw [if_neg hk1, if_neg hk2]; rfl
      clear hm
      go_enter Tryd.func51, Tryd.ntmps51
      go_wp2
      go_ret
      have hm := seed_mod (seed := seed) h4 h5
      refine ⟨ret_int ?_, (Below.refl _ _).alloc (Nat.le_refl _) _⟩
      rw [HR.out, HW.out]
      rw [IntWalk.wrap64_in _ ⟨by omega, by omega⟩]

theorem pow_mono_int {a b : Nat} (h : a ≤ b) : (2 : Int) ^ a ≤ 2 ^ b := by
  have : (2 : Nat) ^ a ≤ 2 ^ b := Nat.pow_le_pow_right (by omega) h
  have e1 : ((2 ^ a : Nat) : Int) = 2 ^ a := by simp
  have e2 : ((2 ^ b : Nat) : Int) = 2 ^ b := by simp
  omega

/-- where the loop ends -/
theorem restOf_end {ba ca ji k seed : Int} {j : Nat} (h1 : 1 ≤ ba) (h2 : ba ≤ ca) (h3 : ca ≤ 1048576) (hlt : ba * 2 ^ j < 2 * ca) (hj : j = 0 ∨ (j : Int) + 1 ≤ k)
    (he : ¬ ((j : Int) + 1 < k ∧ ba * 2 ^ j < ca)) : restOf ba ca ji k seed = min ca (ba * 2 ^ j) + seed % (ji + 1) := by
  unfold restOf
  congr 1
  by_cases hk1 : k ≤ 1
  · have : j = 0 := by omega
    subst this
    rw [if_pos hk1]; simp; omega
  · rw [if_neg hk1]
    have hj' : (j : Int) + 1 ≤ k := by omega
    have hp : (0 : Int) < 2 ^ j := Int.pow_pos (by omega)
    by_cases hx : (j : Int) + 1 < k
    · have hge : ca ≤ ba * 2 ^ j := by omega
      by_cases hk2 : k < 22
      · rw [if_pos hk2]
        have hm := pow_mono_int (show j ≤ k.toNat - 1 by omega)
        have := Int.mul_le_mul_of_nonneg_left hm (show 0 ≤ ba by omega)
        omega
      · rw [if_neg hk2]; omega
    · have he' : k.toNat - 1 = j := by omega
      by_cases hk2 : k < 22
      · rw [if_pos hk2, he']
      · exfalso
        have hm := pow_mono_int (show 21 ≤ j by omega)
        have := Int.mul_le_mul h1 hm (by decide) (by omega)
        have e : (2 : Int) ^ 21 = 2097152 := by decide
        omega

set_option maxHeartbeats 1000000 in
theorem ref_Rest_calls (bu cl be ba ca ji : Int) (A : Option Addr) (n c : Nat) (k seed : Int) (w : World)
    (h1 : 1 ≤ ba) (h2 : ba ≤ ca) (h3 : ca ≤ 1048576) (h4 : 0 ≤ ji) (h5 : ji ≤ 1048576) (hk : i64 k) (hs0 : 0 ≤ seed) (hs1 : seed < 18446744073709551616) :
    Calls Tryd.prog 13 #[.agg #[.int .i64 bu, .int .i64 cl, .int .i64 be, .int .i64 ba, .int .i64 ca, .int .i64 ji, .slice A n c], .int .i64 k, .int .u64 seed] w
      fun e w' => e = .returned (.int .i64 (restOf ba ca ji k seed)) ∧ Below w.heap.size w w' := by
  have hm := seed_mod (seed := seed) h4 h5
  have HW : Hid (wrap64 (seed % (ji + 1)) = seed % (ji + 1)) := IntWalk.wrap64_in _ ⟨by omega, by omega⟩
  obtain ⟨k1, k2⟩ := hk
  clear hm
  go_enter Tryd.func13, Tryd.ntmps13
  go_wp2
  go_loop [7, 8] (fun t i => ∃ j : Nat, i = .int .i64 (j + 1) ∧ t = .int .i64 (ba * 2 ^ j) ∧ 1 ≤ ba * 2 ^ j ∧ ba * 2 ^ j < 2 * ca ∧ (j = 0 ∨ (j : Int) + 1 ≤ k)) (fun _ i => (k - intOf i).toNat)
  case atStart => exact ⟨0, rfl, by simp, by simp; omega, by simp; omega, .inl rfl⟩
  case round =>
    obtain ⟨j, rfl, rfl, hj1, hj2, hj3⟩ := hrel
    by_cases hc : (j : Int) + 1 < k ∧ ba * 2 ^ j < ca
    · obtain ⟨hc1, hc2⟩ := hc
      have e : ba * 2 ^ (j + 1) = ba * 2 ^ j * 2 := by rw [Int.pow_succ, Int.mul_assoc]
      have E := Lib.hid e
      clear e
      go_wp2
      go_round
      case rel => exact ⟨j + 1, by go_num, by rw [E.out], by rw [E.out]; omega, by rw [E.out]; omega, .inr (by omega)⟩
      case measure => simp [intOf]; omega
    · have HE := Lib.hid (restOf_end (ji := ji) (seed := seed) h1 h2 h3 hj2 hj3 hc)
      by_cases hc1 : (j : Int) + 1 < k
      · have hc2 : ¬ (ba * 2 ^ j < ca) := fun h => hc ⟨hc1, h⟩
        clear hc
        go_wp2
        all_goals
          go_ret
          have hm := seed_mod (seed := seed) h4 h5
          refine ⟨ret_int ?_, (by repeat (first | assumption | exact Below.refl _ _ | refine below_drewN ?_ _ | refine Below.drew ?_ | refine Below.alloc ?_ (by first | omega | (simp; done) | (simp; omega)) _ | refine Below.setCell ?_ (by first | omega | (simp; done) | (simp; omega)) _))⟩
          rw [HE.out, HW.out]
          rw [IntWalk.wrap64_in _ ⟨by omega, by omega⟩]
          omega
      · clear hc
        go_wp2
        all_goals
          go_ret
          have hm := seed_mod (seed := seed) h4 h5
          refine ⟨ret_int ?_, (by repeat (first | assumption | exact Below.refl _ _ | refine below_drewN ?_ _ | refine Below.drew ?_ | refine Below.alloc ?_ (by first | omega | (simp; done) | (simp; omega)) _ | refine Below.setCell ?_ (by first | omega | (simp; done) | (simp; omega)) _))⟩
          rw [HE.out, HW.out]
          rw [IntWalk.wrap64_in _ ⟨by omega, by omega⟩]
          omega
end Go.Proofs.YthojajhbcmkjfaaDoor
