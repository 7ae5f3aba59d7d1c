/- An edge back: it closes a circle just if the node is reached. Plain laws. -/
import Derived.Test.YtagkobkmaigfcaaDoorPCodec
namespace FK

/-- a node that waits for those ahead of it alone -/
def Low (ns : List Node) : Prop := ∀ i nd, ns[i]? = some nd → NodeOk nd ∧ EdgesOk i (-1) nd.after

theorem EdgesOk.more {len len' : Nat} (h : len ≤ len') : ∀ {p : Int} {l : List Int}, EdgesOk len p l → EdgesOk len' p l
  | _, [], _ => trivial
  | _, _ :: _, ⟨h1, h2, h3⟩ => ⟨h1, by omega, EdgesOk.more h h3⟩

theorem EdgesOk.snoc {len : Nat} : ∀ {p : Int} {l : List Int} {k : Int}, EdgesOk len p l → (∀ x ∈ l, x < k) → p < k → k < len → EdgesOk len p (l ++ [k])
  | _, [], _, _, _, h2, h3 => ⟨h2, h3, trivial⟩
  | _, x :: _l, _, ⟨h1, h2, h3⟩, h4, _, h6 => ⟨h1, h2, EdgesOk.snoc h3 (fun y hy => h4 y (List.mem_cons_of_mem _ hy)) (h4 x (List.mem_cons_self ..)) h6⟩

theorem Low.fit {d : Int} {ns : List Node} (h : Low ns) (hd : span d 1) (h1 : 1 ≤ ns.length) (h2 : ns.length ≤ 12) : Fit ⟨d, ns⟩ := by
  refine ⟨⟨hd, h1, h2⟩, fun j n _ hj => ⟨(h j n hj).1, (h j n hj).2.more (Nat.le_of_lt (List.getElem?_eq_some_iff.1 hj).1)⟩, fun i _ => ?_⟩
  revert i
  have key : ∀ i, Ac ns i := by
   intro i
   induction i using Nat.strongRecOn with
   | _ i ih =>
    refine Ac.mk i fun k hk => ?_
    have hlt : k < i := by
      unfold aft at hk
      cases hn : ns[i]? with
      | none => rw [hn] at hk; simp at hk
      | some nd =>
        rw [hn] at hk
        simp at hk
        obtain ⟨x, hx, rfl⟩ := hk
        have := (h i nd hn).2.bounds x hx
        omega
    exact ih k hlt
  exact fun i _ => key i

/-- which nodes are reached from a -/
structure Reach (ns : List Node) (a : Nat) (R : Nat → Bool) : Prop where
  at_ : R a = true
  low : ∀ i, i < a → R i = false
  dom : ∀ i, R i = true → ns[i]? ≠ none
  step : ∀ i nd, a < i → ns[i]? = some nd → (R i = true ↔ ∃ k ∈ nd.after, R k.toNat = true)

/-- the flow with the edge -/
def back (ns : List Node) (a z : Nat) (nd : Node) : List Node := ns.set a { nd with after := nd.after ++ [(z : Int)] }

section
variable {ns : List Node} {a z : Nat} {nd : Node} {R : Nat → Bool}

theorem mem_aft {l : List Node} {i k : Nat} {n : Node} (hn : l[i]? = some n) : k ∈ aft l i ↔ ∃ x ∈ n.after, x.toNat = k := by
  unfold aft
  rw [hn]
  simp
theorem back_at (ha : ns[a]? = some nd) : (back ns a z nd)[a]? = some { nd with after := nd.after ++ [(z : Int)] } := by
  have := (List.getElem?_eq_some_iff.1 ha).1
  simp [back, this]
theorem back_off {i : Nat} (h : i ≠ a) : (back ns a z nd)[i]? = ns[i]? := by
  simp [back, List.getElem?_set_ne (Ne.symm h)]
theorem back_aft {i : Nat} (h : i ≠ a) : aft (back ns a z nd) i = aft ns i := by
  unfold aft
  rw [back_off h]

theorem reach_not_ac (hR : Reach ns a R) (_hl : Low ns) (ha : ns[a]? = some nd) (hz : R z = true) : ¬ Ac (back ns a z nd) a := by
  have key : ∀ i, Ac (back ns a z nd) i → R i = true → False := by
    intro i h
    induction h with
    | mk i h ih =>
      intro hi
      by_cases hia : i = a
      · subst hia
        exact ih z ((mem_aft (back_at ha)).2 ⟨z, by simp, by simp⟩) hz
      · have hgt : a < i := by
          rcases Nat.lt_or_ge i a with h | h
          · rw [hR.low i h] at hi; cases hi
          · omega
        cases hn : ns[i]? with
        | none =>
          -- outside: nothing is reached there
          exact hR.dom i hi hn
        | some n =>
          obtain ⟨x, hx, hk⟩ := (hR.step i n hgt hn).1 hi
          exact ih x.toNat (by rw [back_aft hia]; exact (mem_aft hn).2 ⟨x, hx, rfl⟩) hk
  exact fun h => key a h hR.at_

theorem not_reach_ac (hR : Reach ns a R) (hl : Low ns) (ha : ns[a]? = some nd) (hz : R z = false) : ∀ i, Ac (back ns a z nd) i := by
  have hlow : ∀ i k, k ∈ aft ns i → k < i := fun i k hk => by
    unfold aft at hk
    cases hn : ns[i]? with
    | none => rw [hn] at hk; simp at hk
    | some n =>
      rw [hn] at hk
      simp at hk
      obtain ⟨x, hx, rfl⟩ := hk
      have := (hl i n hn).2.bounds x hx
      omega
  have h1 : ∀ i, R i = false → Ac (back ns a z nd) i := by
    intro i
    induction i using Nat.strongRecOn with
    | _ i ih =>
      intro hi
      have hia : i ≠ a := fun h => by subst h; rw [hR.at_] at hi; cases hi
      refine Ac.mk i fun k hk => ?_
      rw [back_aft hia] at hk
      have hki := hlow i k hk
      refine ih k hki ?_
      rcases Nat.lt_or_ge i a with h | h
      · exact hR.low k (by omega)
      · cases hb : R k with
        | false => rfl
        | true =>
          cases hn : ns[i]? with
          | none => unfold aft at hk; rw [hn] at hk; simp at hk
          | some n =>
            obtain ⟨x, hx, rfl⟩ := (mem_aft hn).1 hk
            have := (hR.step i n (by omega) hn).2 ⟨x, hx, hb⟩
            rw [hi] at this; cases this
  have h2 : Ac (back ns a z nd) a := by
    refine Ac.mk a fun k hk => ?_
    obtain ⟨x, hx, rfl⟩ := (mem_aft (back_at ha)).1 hk
    simp only [List.mem_append, List.mem_singleton] at hx
    rcases hx with hx | rfl
    · exact h1 _ (hR.low _ (hlow a _ ((mem_aft ha).2 ⟨x, hx, rfl⟩)))
    · exact h1 _ (by simpa using hz)
  intro i
  induction i using Nat.strongRecOn with
  | _ i ih =>
    by_cases hia : i = a
    · subst hia; exact h2
    · refine Ac.mk i fun k hk => ?_
      rw [back_aft hia] at hk
      exact ih k (hlow i k hk)

theorem back_ok (hl : Low ns) (ha : ns[a]? = some nd) (haz : a ≤ z) (hz : z < ns.length) (d : Int) : OkTo ⟨d, back ns a z nd⟩ (back ns a z nd).length := by
  have hlen : (back ns a z nd).length = ns.length := by simp [back]
  intro j n _ hj
  simp only at hj ⊢
  rw [hlen]
  by_cases hja : j = a
  · subst hja
    rw [back_at ha] at hj
    injection hj with hj
    subst hj
    obtain ⟨h1, h2⟩ := hl j nd ha
    refine ⟨h1, (h2.more (by omega : j ≤ ns.length)).snoc (fun x hx => ?_) (by omega) (by omega)⟩
    have := h2.bounds x hx
    omega
  · rw [back_off hja] at hj
    obtain ⟨h1, h2⟩ := hl j n hj
    have := (List.getElem?_eq_some_iff.1 hj).1
    exact ⟨h1, h2.more (by omega)⟩

/-- the edge closes a circle just if its end is reached -/
theorem back_chk (hR : Reach ns a R) (hl : Low ns) (ha : ns[a]? = some nd) (haz : a ≤ z) (hz : z < ns.length) (h12 : ns.length ≤ 12) (d : Int) (hd : span d 1) : (R z = true → (chk ⟨d, back ns a z nd⟩).1 = 4) ∧ (R z = false → (chk ⟨d, back ns a z nd⟩).1 = 0) := by
  have hlen : (back ns a z nd).length = ns.length := by simp [back]
  have hh : HeadOk ⟨d, back ns a z nd⟩ := ⟨hd, by simp only; omega, by simp only; omega⟩
  have ho := back_ok hl ha haz hz d
  refine ⟨fun h => ?_, fun h => ?_⟩
  · obtain ⟨m, hm1, ⟨hm2, hm3⟩, hm4⟩ := least (p := fun i => i < (back ns a z nd).length ∧ ¬ Ac (back ns a z nd) i) (n := a) ⟨by have := (List.getElem?_eq_some_iff.1 ha).1; omega, reach_not_ac hR hl ha h⟩
    have := (Checked.cycle (f := ⟨d, back ns a z nd⟩) m hh ho hm2 hm3 fun j hj => Classical.byContradiction fun hn => hm4 j hj ⟨by omega, hn⟩).chk
    rw [this]
  · have := (Checked.ok (f := ⟨d, back ns a z nd⟩) hh ho fun i _ => not_reach_ac hR hl ha h i).chk
    rw [this]
end
end FK
