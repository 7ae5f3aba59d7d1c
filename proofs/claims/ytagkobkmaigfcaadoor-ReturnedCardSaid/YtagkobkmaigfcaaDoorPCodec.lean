/- Plain laws on flows: what is written is read. -/
import Derived.Test.YtagkobkmaigfcaaDoorPCheck
namespace FK

/-- b holds l at p -/
def At (b : List UInt8) (p : Nat) (l : List UInt8) : Prop := ∀ i, i < l.length → b[p + i]? = l[i]?

theorem At.append {b : List UInt8} {p : Nat} {l m : List UInt8} (h : At b p (l ++ m)) : At b p l ∧ At b (p + l.length) m := by
  constructor
  · intro i hi
    rw [h i (by simp; omega), List.getElem?_append_left hi]
  · intro i hi
    have := h (l.length + i) (by simp; omega)
    rw [Nat.add_assoc, this, List.getElem?_append_right (by omega)]
    congr 1; omega

theorem At.whole (b : List UInt8) : At b 0 b := by intro i _; simp

theorem encN_lt {n : Nat} (h : n < 128) : encN n = [UInt8.ofNat n] := by rw [encN, if_pos h]
theorem encN_ge {n : Nat} (h : ¬ n < 128) : encN n = UInt8.ofNat (n % 128 + 128) :: encN (n / 128) := by rw [encN, if_neg h]

theorem encN_pos (n : Nat) : 0 < (encN n).length := by
  rw [encN]; split <;> simp

theorem encN_length_le {n : Nat} (h : n < 2097152) : (encN n).length ≤ 3 := by
  by_cases h1 : n < 128
  · rw [encN_lt h1]; simp
  · rw [encN_ge h1]
    by_cases h2 : n / 128 < 128
    · rw [encN_lt h2]; simp
    · rw [encN_ge h2, encN_lt (by omega)]; simp

theorem rd_encN {b : List UInt8} {p n : Nat} (hn : n < 2097152) (h : At b p (encN n)) : rd b p = .ok (n, p + (encN n).length) := by
  by_cases h1 : n < 128
  · rw [encN_lt h1] at h ⊢
    have h0 := h 0 (by simp)
    simp at h0
    unfold rd
    rw [h0]
    have : (UInt8.ofNat n).toNat = n := by simp; omega
    simp only [this]
    rw [if_pos h1]; simp
  · rw [encN_ge h1] at h ⊢
    by_cases h2 : n / 128 < 128
    · rw [encN_lt h2] at h ⊢
      have h0 := h 0 (by simp)
      have h1' := h 1 (by simp)
      simp only [Nat.add_zero, List.getElem?_cons_zero, List.getElem?_cons_succ] at h0 h1'
      have e0 : (UInt8.ofNat (n % 128 + 128)).toNat = n % 128 + 128 := by simp; omega
      have e1 : (UInt8.ofNat (n / 128)).toNat = n / 128 := by simp; omega
      unfold rd
      rw [h0]
      simp only [e0]
      rw [if_neg (by omega), h1']
      simp only [e1]
      rw [if_pos h2, if_neg (by omega)]
      simp; omega
    · rw [encN_ge h2, encN_lt (n := n / 128 / 128) (by omega)] at h ⊢
      have h0 := h 0 (by simp)
      have h1' := h 1 (by simp)
      have h2' := h 2 (by simp)
      simp only [Nat.add_zero, List.getElem?_cons_zero, List.getElem?_cons_succ] at h0 h1' h2'
      have e0 : (UInt8.ofNat (n % 128 + 128)).toNat = n % 128 + 128 := by simp; omega
      have e1 : (UInt8.ofNat (n / 128 % 128 + 128)).toNat = n / 128 % 128 + 128 := by simp; omega
      have e2 : (UInt8.ofNat (n / 128 / 128)).toNat = n / 128 / 128 := by simp; omega
      unfold rd
      rw [h0]
      simp only [e0]
      rw [if_neg (by omega), h1']
      simp only [e1]
      rw [if_neg (by omega), h2']
      simp only [e2]
      rw [if_pos (by omega), if_neg (by omega)]
      simp; omega

theorem rdInt_encN {b : List UInt8} {p : Nat} {n : Int} (h0 : 0 ≤ n) (hn : n < 2097152) (h : At b p (encN n.toNat)) : rdInt b p = .ok (n, p + (encN n.toNat).length) := by
  unfold rdInt
  rw [rd_encN (by omega) h]
  simp; omega

theorem many_of {α : Type} {b : List UInt8} (r : Rd α) (enc : α → List UInt8) : ∀ (xs l : List α) (p : Nat), (∀ x ∈ xs, ∀ p, At b p (enc x) → r p = .ok (x, p + (enc x).length)) →
    At b p (xs.flatMap enc) → many r xs.length l p = .ok (l ++ xs, p + (xs.flatMap enc).length)
  | [], l, p, _, _ => by simp [many]
  | x :: xs, l, p, hr, h => by
    rw [List.flatMap_cons] at h
    have ⟨h1, h2⟩ := h.append
    simp only [List.length_cons, many]
    rw [hr x (by simp) p h1]
    simp only
    rw [many_of r enc xs (l ++ [x]) _ (fun y hy => hr y (by simp [hy])) h2]
    simp; omega

theorem rdList_of {α : Type} {b : List UInt8} (r : Rd α) (enc : α → List UInt8) (xs : List α) (p : Nat) (hl : xs.length < 2097152) (hr : ∀ x ∈ xs, ∀ p, At b p (enc x) → r p = .ok (x, p + (enc x).length))
    (h : At b p (encN xs.length ++ xs.flatMap enc)) : rdList b r p = .ok (xs, p + (encN xs.length ++ xs.flatMap enc).length) := by
  have ⟨h1, h2⟩ := h.append
  unfold rdList
  rw [rd_encN hl h1]
  simp only
  rw [many_of r enc xs [] _ hr h2]
  simp; omega

theorem rdNode_of {b : List UInt8} {p : Nat} {n : Node} {len : Nat} (hlen : len ≤ 12) (hn : NodeOk n) (he : EdgesOk len (-1) n.after) (h : At b p (encNode n)) : rdNode b p = .ok (n, p + (encNode n).length) := by
  obtain ⟨a1, a2, ⟨b1, b2⟩, ⟨c1, c2⟩, ⟨d1, d2⟩, ⟨e1, e2⟩, f1, f2⟩ := hn
  have hlen' : (encNode n).length = (encN n.budget.toNat).length + ((encN n.close.toNat).length + ((encN n.beat.toNat).length + ((encN n.base.toNat).length + ((encN n.cap.toNat).length + ((encN n.jitter.toNat).length + (encN n.after.length ++ n.after.flatMap fun k => encN k.toNat).length))))) := by
    simp [encNode]
  have h' : At b p (encN n.budget.toNat ++ (encN n.close.toNat ++ (encN n.beat.toNat ++ (encN n.base.toNat ++ (encN n.cap.toNat ++ (encN n.jitter.toNat ++ (encN n.after.length ++ n.after.flatMap fun k => encN k.toNat))))))) := by
    simpa [encNode] using h
  have ⟨g1, r1⟩ := h'.append
  have ⟨g2, r2⟩ := r1.append
  have ⟨g3, r3⟩ := r2.append
  have ⟨g4, r4⟩ := r3.append
  have ⟨g5, r5⟩ := r4.append
  have ⟨g6, r6⟩ := r5.append
  unfold rdNode
  rw [rdInt_encN (by omega) (by omega) g1]; simp only [andThen]
  rw [rdInt_encN (by omega) (by omega) g2]; simp only
  rw [rdInt_encN (by omega) (by omega) g3]; simp only
  rw [rdInt_encN (by omega) (by omega) g4]; simp only
  rw [rdInt_encN (by omega) (by omega) g5]; simp only
  rw [rdInt_encN (by omega) (by omega) g6]; simp only
  have hb := he.bounds
  have hal : n.after.length < 2097152 := by
    rcases he.length_le (by omega) with h | h
    · omega
    · rw [h]; simp
  rw [rdList_of (rdInt b) (fun k => encN k.toNat) n.after _ hal (fun x hx q hq => rdInt_encN (by have := hb x hx; omega) (by have := hb x hx; omega) hq) r6]
  simp only
  rw [hlen']
  congr 2
  omega

theorem rdFlow_of {b : List UInt8} {p : Nat} {f : Flow} (hh : HeadOk f) (ho : OkTo f f.nodes.length) (h : At b p (encFlow f)) : rdFlow b p = .ok (f, p + (encFlow f).length) := by
  obtain ⟨⟨a1, a2⟩, a3, a4⟩ := hh
  have h' : At b p (encN f.deadline.toNat ++ (encN f.nodes.length ++ f.nodes.flatMap encNode)) := by simpa [encFlow] using h
  have ⟨g1, r1⟩ := h'.append
  unfold rdFlow
  rw [rdInt_encN (by omega) (by omega) g1]; simp only [andThen]
  rw [rdList_of (rdNode b) encNode f.nodes _ (by omega) (fun x hx q hq => by
    obtain ⟨i, hi, hx⟩ := List.mem_iff_getElem.1 hx
    have := ho i x hi (by rw [List.getElem?_eq_getElem hi, hx])
    exact rdNode_of a4 this.1 this.2 hq) r1]
  simp only
  have : (encFlow f).length = (encN f.deadline.toNat).length + (encN f.nodes.length ++ f.nodes.flatMap encNode).length := by simp [encFlow]
  rw [this]
  congr 2
  omega

theorem dec_enc {f : Flow} (h : Fit f) : dec (encFlow f) = .ok f := by
  unfold dec
  rw [rdFlow_of h.head h.nodes (At.whole _)]
  simp [h.chk]

theorem dec_fit {b : List UInt8} {f : Flow} (h : dec b = .ok f) : Fit f := by
  unfold dec at h
  split at h
  · cases h
  · split at h
    · cases h
    · split at h
      · rename_i hz; cases h; exact chk_zero hz
      · cases h

end FK
