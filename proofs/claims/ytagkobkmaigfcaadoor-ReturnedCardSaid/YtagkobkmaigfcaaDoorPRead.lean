/- Numbers out of bytes, byte by byte; nodes, number by number: plain laws. -/
import Derived.Test.YtagkobkmaigfcaaDoorPCodec
import Derived.Laws.BitsAllLaws
import Derived.Laws.BitsLemmas
import Derived.WalkKit
namespace FK

/-- what the bytes from the i-th on make of a number begun -/
def rdGo (b : List UInt8) (p : Nat) : Nat → Nat → Nat → Except Nat (Nat × Nat)
  | 0, _, _ => .error p
  | k + 1, i, n => match b[p + i]? with
    | none => .error p
    | some c => if c.toNat < 128 then (if c.toNat = 0 ∧ 0 < i then .error p else .ok (n + c.toNat * 128 ^ i, p + i + 1)) else rdGo b p k (i + 1) (n + c.toNat % 128 * 128 ^ i)

theorem rd_go (b : List UInt8) (p : Nat) : rd b p = rdGo b p 3 0 0 := by
  unfold rd
  simp only [rdGo, Nat.add_zero]
  cases h0 : b[p]? with
  | none => rfl
  | some c =>
    simp only
    by_cases hc : c.toNat < 128
    · simp [hc]
    · simp only [hc, if_false, Nat.zero_add]
      cases h1 : b[p + 1]? with
      | none => rfl
      | some d =>
        simp only
        by_cases hd : d.toNat < 128
        · simp only [hd, if_true]
          by_cases hz : d.toNat = 0
          · simp [hz]
          · simp [hz]
        · simp only [hd, if_false]
          cases h2 : b[p + 2]? with
          | none => rfl
          | some e =>
            simp only
            by_cases he : e.toNat < 128
            · simp only [he, if_true]
              by_cases hz : e.toNat = 0
              · simp [hz]
              · simp [hz]
            · simp only [he, if_false]

theorem rd_lt {b : List UInt8} {p n q : Nat} (h : rd b p = .ok (n, q)) : n < 2097152 ∧ p < q ∧ q ≤ b.length := by
  unfold rd at h
  split at h
  · cases h
  · rename_i c hc
    have hl0 := (List.getElem?_eq_some_iff.1 hc).1
    split at h
    · injection h with h; injection h with h1 h2; omega
    · split at h
      · cases h
      · rename_i d hd
        have hl1 := (List.getElem?_eq_some_iff.1 hd).1
        split at h
        · split at h
          · cases h
          · injection h with h; injection h with h1 h2; omega
        · split at h
          · cases h
          · rename_i e he
            have hl2 := (List.getElem?_eq_some_iff.1 he).1
            split at h
            · split at h
              · cases h
              · injection h with h; injection h with h1 h2; omega
            · cases h

def node7 (l : List Int) (after : List Int) : Node := ⟨l.getD 0 0, l.getD 1 0, l.getD 2 0, l.getD 3 0, l.getD 4 0, l.getD 5 0, after⟩

/-- so many numbers more, then those for which it waits -/
def rdNums (b : List UInt8) : Nat → List Int → Rd Node
  | 0, l, p => andThen (rdList b (rdInt b) p) fun after p => .ok (node7 l after, p)
  | k + 1, l, p => andThen (rdInt b p) fun x p => rdNums b k (l ++ [x]) p

theorem rdNode_nums (b : List UInt8) (p : Nat) : rdNode b p = rdNums b 6 [] p := rfl

/-- each that is read moves on -/
theorem many_ok {α : Type} {r : Rd α} {b : Nat} (hr : ∀ p x q, r p = .ok (x, q) → p < q ∧ q ≤ b) : ∀ (n : Nat) (l : List α) (p : Nat) (xs : List α) (q : Nat), many r n l p = .ok (xs, q) → xs.length = l.length + n ∧ p + n ≤ q ∧ (n = 0 ∨ q ≤ b)
  | 0, l, p, xs, q, h => by simp only [many] at h; injection h with h; injection h with h1 h2; subst h1; subst h2; exact ⟨rfl, Nat.le_refl _, .inl rfl⟩
  | n + 1, l, p, xs, q, h => by
    simp only [many] at h
    split at h
    · cases h
    · rename_i x p' hx
      obtain ⟨h1, h2⟩ := hr _ _ _ hx
      obtain ⟨h3, h4, h5⟩ := many_ok hr n _ p' xs q h
      simp at h3
      refine ⟨by omega, by omega, .inr ?_⟩
      rcases h5 with rfl | h5
      · simp only [many] at h; injection h with h; injection h with _ h2; omega
      · exact h5
end FK
namespace Go
theorem or_shift (i n c : Nat) (hn : n < 128 ^ i) (hi : i ≤ 2) (hc : c < 128) : bits BinOp.or IntKind.i64 (n : Int) ((c * 128 ^ i : Nat) : Int) = ((n + c * 128 ^ i : Nat) : Int) := by
  have h7 : 128 ^ i = 2 ^ (7 * i) := by rw [Nat.pow_mul]
  have hle : c * 128 ^ i + n < 2 ^ 63 := by
    have : i = 0 ∨ i = 1 ∨ i = 2 := by omega
    rcases this with rfl | rfl | rfl <;> simp at hn ⊢ <;> omega
  have hw : ∀ n : Int, 0 ≤ n → n < 2 ^ 63 → IntKind.i64.wrap n = n := fun n h1 h2 => by
    have h3 : (2 : Int) ^ 63 = 9223372036854775808 := by decide
    exact IntWalk.i64_in n (by omega)
  have := (bits_nat .i64 63 (by decide) hw n (c * 128 ^ i) (by omega) (by omega)).2
  rw [this, h7]
  have h2 := Nat.two_pow_add_eq_or_of_lt (i := 7 * i) (b := n) (by rw [← h7]; exact hn) c
  rw [Nat.or_comm, Nat.mul_comm c, ← h2, Nat.add_comm]
theorem and_127 (c : Nat) (hc : c < 256) : bits BinOp.and IntKind.u8 (c : Int) 127 = ((c % 128 : Nat) : Int) := by
  have := u8_and_nat c 127 (by omega) (by omega)
  rw [show ((127 : Int)) = ((127 : Nat) : Int) from rfl, this]
  have key : ∀ x : Fin 256, x.val &&& 127 = x.val % 128 := by decide +kernel
  rw [key ⟨c, hc⟩]
end Go
