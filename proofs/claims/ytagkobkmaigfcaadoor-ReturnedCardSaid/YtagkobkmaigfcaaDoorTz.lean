/- math/bits.TrailingZeros: the place of the lowest bit that is set. -/
import Derived.Test.YtagkobkmaigfcaaDoorMem
import Derived.Shelf.Spec.TrailingZeros
namespace Go.Proofs.YtagkobkmaigfcaaDoor
open Go Go.RowKit

/-- the library's table lies where its initialiser laid it -/
def Tab (w : World) : Prop := TabAt 1 Lib.deBruijn64tab w

theorem Tab.keep {B : Nat} {w w' : World} (h : Tab w) (s : Same B w w') (hB : 1 < B) : Tab w' := fun j hj => by rw [s.cell hB]; exact h j hj

set_option maxHeartbeats 1000000 in
theorem tz64_core (x k idx : Nat) (w : World) (hx0 : ((x : Int) == 0) = false)
    (key : IntKind.u64.wrap (bits BinOp.and IntKind.u64 (x : Int) (IntKind.u64.wrap (-(x : Int))) * 285870213051353865) / 288230376151711744 = (idx : Int))
    (hi : idx < 64) (hk : k < 64) (hcell : w.cell? ⟨1, idx, none⟩ = some (.int .u8 k)) :
    Calls Tryd.prog 89 #[.int .u64 x] w fun e w' => e = .returned (.int .i64 k) ∧ w = w' := by
  go_enter Tryd.func89, Tryd.ntmps89
  go_wp2_with (simp only [key])
  go_ret
  exact ⟨rfl, rfl⟩

theorem tz64_calls (x : Nat) (hx : x < 18446744073709551616) (hx0 : x ≠ 0) (w : World) (hT : Tab w) :
    Calls Tryd.prog 89 #[.int .u64 x] w fun e w' => e = .returned (.int .i64 (Lib.ctz 64 x)) ∧ w = w' := by
  obtain ⟨hlow, hk⟩ := Lib.lowest_bit 64 x hx0 hx
  obtain ⟨hi, htab⟩ := Lib.deBruijn64_at _ hk
  have hcell := hT _ hi
  rw [htab] at hcell
  exact tz64_core x _ _ w (by simp; omega) (tz64_key x _ hx hx0 hlow) hi hk hcell

set_option maxHeartbeats 400000 in
theorem tz_calls (x : Nat) (hx : x < 18446744073709551616) (hx0 : x ≠ 0) (w : World) (hT : Tab w) :
    Calls Tryd.prog 73 #[.int .u64 x] w fun e w' => e = .returned (.int .i64 (Lib.ctz 64 x)) ∧ w = w' := by
  have H := Lib.hid (tz64_calls x hx hx0)
  clear hx
  go_enter Tryd.func73, Tryd.ntmps73
  go_wp2_with (go_at_call 89; refine (H.out _ hT).mono ?_; rintro e w' ⟨rfl, rfl⟩)
  go_ret
  exact ⟨rfl, rfl⟩

/-- it is the lowest bit that is set -/
theorem ctz_low (x : Nat) (hx : x < 18446744073709551616) (hx0 : x ≠ 0) : x.testBit (Lib.ctz 64 x) = true ∧ (∀ j, j < Lib.ctz 64 x → x.testBit j = false) ∧ Lib.ctz 64 x < 64 := by
  unfold Lib.ctz
  rw [if_neg hx0]
  obtain ⟨m, hm, hk⟩ := Lib.ctzFrom_spec 64 x (by omega) (by simpa using hx)
  generalize Lib.ctzFrom 64 x = t at hm hk ⊢
  refine ⟨?_, ?_, hk⟩
  · rw [hm, Nat.mul_comm, Nat.testBit_mul_two_pow, Nat.sub_self, Nat.testBit_zero]; simp
  · intro j hj
    rw [hm, Nat.mul_comm, Nat.testBit_mul_two_pow]; simp; omega
end Go.Proofs.YtagkobkmaigfcaaDoor
