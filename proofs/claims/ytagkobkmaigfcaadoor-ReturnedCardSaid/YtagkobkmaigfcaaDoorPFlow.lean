/- Plain laws on flows: order of nodes, numbers as bytes. -/
namespace FK

structure Node where
  budget : Int
  close : Int
  beat : Int
  base : Int
  cap : Int
  jitter : Int
  after : List Int
  deriving Inhabited

structure Flow where
  deadline : Int
  nodes : List Node
  deriving Inhabited

/-- what node i waits for -/
def aft (l : List Node) (i : Nat) : List Nat := match l[i]? with | some n => n.after.map Int.toNat | none => []

inductive Ac (l : List Node) : Nat → Prop where
  | mk (i : Nat) (h : ∀ k, k ∈ aft l i → Ac l k) : Ac l i

theorem Ac.of {l : List Node} {i : Nat} (h : Ac l i) : ∀ k, k ∈ aft l i → Ac l k := by
  cases h with | mk _ h => exact h

/-- one bit less: the lowest -/
theorem and_pred_testBit : ∀ t w, w.testBit t = true → (∀ j, j < t → w.testBit j = false) →
    ∀ j, (w &&& (w - 1)).testBit j = (w.testBit j && decide (j ≠ t)) := by
  intro t
  induction t with
  | zero =>
    intro w h1 _ j
    have ho : w % 2 = 1 := by simpa [Nat.testBit_zero] using h1
    rw [Nat.testBit_and]
    cases j with
    | zero => simp [Nat.testBit_zero]; omega
    | succ j =>
      rw [Nat.testBit_succ, Nat.testBit_succ, show (w - 1) / 2 = w / 2 by omega]; simp
  | succ t ih =>
    intro w h1 h2 j
    have he : w % 2 = 0 := by
      have := h2 0 (by omega)
      simp [Nat.testBit_zero] at this; omega
    have hp : 0 < w := by
      rcases Nat.eq_zero_or_pos w with h | h
      · subst h; simp at h1
      · exact h
    rw [Nat.testBit_succ] at h1
    have ih' := ih (w / 2) h1 (fun j hj => by have := h2 (j + 1) (by omega); rwa [Nat.testBit_succ] at this)
    rw [Nat.testBit_and]
    cases j with
    | zero => simp [Nat.testBit_zero]; omega
    | succ j =>
      have := ih' j
      rw [Nat.testBit_and] at this
      rw [Nat.testBit_succ, Nat.testBit_succ, show (w - 1) / 2 = w / 2 - 1 by omega, this]
      simp

/-- the bits of a list -/
def mask : List Nat → Nat
  | [] => 0
  | k :: l => (1 <<< k) ||| mask l

theorem testBit_one_shl (k j : Nat) : (1 <<< k).testBit j = decide (j = k) := by
  rw [Nat.one_shiftLeft, Nat.testBit_two_pow]; simp [eq_comm]

theorem mask_testBit (l : List Nat) (j : Nat) : (mask l).testBit j = decide (j ∈ l) := by
  induction l with
  | nil => simp [mask]
  | cons k l ih => rw [mask, Nat.testBit_or, ih, testBit_one_shl]; simp

theorem mask_append (a b : List Nat) : mask (a ++ b) = mask a ||| mask b := by
  induction a with
  | nil => simp [mask]
  | cons k a ih => simp [mask, ih, Nat.or_assoc]

theorem and_eq_zero_iff (a b : Nat) : a &&& b = 0 ↔ ∀ j, ¬ (a.testBit j = true ∧ b.testBit j = true) := by
  constructor
  · intro h j
    have := congrArg (fun x => x.testBit j) h
    simp [Nat.testBit_and] at this
    intro ⟨h1, h2⟩; simp [h1, h2] at this
  · intro h
    apply Nat.eq_of_testBit_eq
    intro j
    have := h j
    rw [Nat.testBit_and, Nat.zero_testBit]
    cases h1 : a.testBit j <;> cases h2 : b.testBit j <;> simp_all

theorem mask_and_zero (l : List Nat) (left : Nat) : mask l &&& left = 0 ↔ ∀ k ∈ l, left.testBit k = false := by
  rw [and_eq_zero_iff]
  constructor
  · intro h k hk
    have := h k
    rw [mask_testBit] at this
    simp [hk] at this; exact this
  · intro h j ⟨h1, h2⟩
    rw [mask_testBit] at h1
    have := h j (by simpa using h1)
    rw [this] at h2; cases h2

/-- The walk of Order: `left` are those that stay; `told` the order in which nodes are told. -/
structure Ordering (l : List Node) (left : Nat) (told : List Nat) : Prop where
  bits : ∀ i, left.testBit i = true ↔ i < l.length ∧ i ∉ told
  lt : ∀ i ∈ told, i < l.length
  nodup : told.Nodup
  /-- each behind those for which it waits -/
  behind : ∀ a i b, told = a ++ i :: b → ∀ k ∈ aft l i, k < l.length → k ∈ a

theorem Ordering.start (l : List Node) : Ordering l (2 ^ l.length - 1) [] where
  bits := by intro i; simp [Nat.testBit_two_pow_sub_one]
  lt := by simp
  nodup := by simp
  behind := by intro a i b h; simp at h

theorem Ordering.tell {l : List Node} {left : Nat} {told : List Nat} (h : Ordering l left told) {i : Nat} (hi : left.testBit i = true)
    (hn : ∀ k ∈ aft l i, left.testBit k = false) {left' : Nat} (hl : ∀ j, left'.testBit j = (left.testBit j && decide (j ≠ i))) : Ordering l left' (told ++ [i]) where
  bits := by
    intro j
    rw [hl j]
    have := h.bits j
    simp
    constructor
    · rintro ⟨h1, h2⟩; exact ⟨(this.1 h1).1, (this.1 h1).2, h2⟩
    · rintro ⟨h1, h2, h3⟩; exact ⟨this.2 ⟨h1, h2⟩, h3⟩
  lt := by
    intro j hj
    simp at hj
    rcases hj with hj | rfl
    · exact h.lt j hj
    · exact ((h.bits j).1 hi).1
  nodup := by
    rw [List.nodup_append]
    refine ⟨h.nodup, by simp, ?_⟩
    intro a ha b hb
    simp at hb; subst hb
    rintro rfl
    exact ((h.bits _).1 hi).2 ha
  behind := by
    intro a j b hab k hk hlt
    rcases List.eq_nil_or_concat b with rfl | ⟨b', x, rfl⟩
    · have := List.append_inj' hab (by simp)
      obtain ⟨h1, h2⟩ := this
      simp at h2; subst h2; subst h1
      have := hn k hk
      have hb := h.bits k
      rw [this] at hb
      simp [hlt] at hb
      exact hb
    · rw [List.concat_eq_append, ← List.cons_append, ← List.append_assoc] at hab
      have := (List.append_inj' hab (by simp)).1
      exact h.behind a j b' this k hk hlt

theorem Ordering.ac {l : List Node} {left : Nat} {told : List Nat} (h : Ordering l left told) (hv : ∀ i, ∀ k ∈ aft l i, k < l.length) : ∀ i ∈ told, Ac l i := by
  have key : ∀ n, ∀ a b, told = a ++ b → a.length = n → ∀ i ∈ a, Ac l i := by
    intro n
    induction n using Nat.strongRecOn with
    | _ n ih =>
      intro a b hab hlen i hi
      obtain ⟨a1, a2, rfl⟩ := List.append_of_mem hi
      refine .mk i fun k hk => ?_
      have := h.behind a1 i (a2 ++ b) (by rw [hab]; simp) k hk (hv i k hk)
      exact ih a1.length (by rw [← hlen]; simp) a1 (i :: a2 ++ b) (by rw [hab]; simp) rfl k this
  intro i hi
  exact key _ told [] (by simp) rfl i hi

theorem Ordering.stuck {l : List Node} {left : Nat} {told : List Nat} (h : Ordering l left told) (hv : ∀ i, ∀ k ∈ aft l i, k < l.length)
    (hs : ∀ i, left.testBit i = true → ∃ k ∈ aft l i, left.testBit k = true) (i : Nat) : left.testBit i = true ↔ i < l.length ∧ ¬ Ac l i := by
  have key : ∀ i, Ac l i → left.testBit i = false := by
    intro i hi
    induction hi with
    | mk i _ ih =>
      cases hb : left.testBit i with
      | false => rfl
      | true =>
        obtain ⟨k, hk, hb'⟩ := hs i hb
        rw [ih k hk] at hb'; cases hb'
  constructor
  · intro hb
    refine ⟨((h.bits i).1 hb).1, fun ha => ?_⟩
    rw [key i ha] at hb; cases hb
  · intro ⟨h1, h2⟩
    refine (h.bits i).2 ⟨h1, fun hm => h2 (h.ac hv i hm)⟩

/-! ### rounds: nodes that wait for nothing that is left go -/

structure Gone (l : List Node) (g : List Bool) : Prop where
  len : g.length = l.length
  sound : ∀ i, g[i]? = some true → Ac l i

def Whole (l : List Node) (g : List Bool) : Prop := ∀ i, i < l.length → Ac l i → g[i]? = some true

theorem Gone.start (l : List Node) : Gone l (List.replicate l.length false) where
  len := by simp
  sound := by intro i h; simp [List.getElem?_replicate] at h

/-- g' has all that g has -/
def More (g g' : List Bool) : Prop := ∀ i : Nat, g[i]? = some true → g'[i]? = some true

theorem More.refl (g : List Bool) : More g g := fun _ h => h
theorem More.trans {a b c : List Bool} (h : More a b) (k : More b c) : More a c := fun i x => k i (h i x)

theorem count_set {g : List Bool} : ∀ {i : Nat}, g[i]? = some false → (g.set i true).count true = g.count true + 1 := by
  induction g with
  | nil => intro i h; simp at h
  | cons b g ih =>
    intro i h
    cases i with
    | zero => simp at h; subst h; simp
    | succ i =>
      simp at h
      have := ih h
      simp [List.count_cons, this]; omega

theorem more_count : ∀ {g g' : List Bool}, g.length = g'.length → More g g' → g.count true ≤ g'.count true ∧ ((∃ i : Nat, g[i]? = some false ∧ g'[i]? = some true) → g.count true < g'.count true) := by
  intro g
  induction g with
  | nil => intro g' hl _; exact ⟨by simp, fun ⟨i, h, _⟩ => by simp at h⟩
  | cons b g ih =>
    intro g' hl hm
    cases g' with
    | nil => simp at hl
    | cons b' g' =>
      have hm' : More g g' := fun i h => by have := hm (i + 1) (by simpa using h); simpa using this
      obtain ⟨h1, h2⟩ := ih (by simpa using hl) hm'
      have h0 : b = true → b' = true := fun hb => by have := hm 0 (by simp [hb]); simpa using this
      have hc : ∀ x : Bool, (if x == true then 1 else 0) = (if x = true then 1 else 0) := by intro x; cases x <;> rfl
      simp only [List.count_cons]
      refine ⟨by cases b <;> cases b' <;> simp at h0 ⊢ <;> omega, ?_⟩
      rintro ⟨i, hi, hi'⟩
      cases i with
      | zero => simp at hi hi'; subst hi hi'; simp; omega
      | succ i =>
        simp at hi hi'
        have := h2 ⟨i, hi, hi'⟩
        cases b <;> cases b' <;> simp_all <;> omega

/-- one sweep: g at its head, g' now, the nodes below i have been asked -/
structure Sweep (l : List Node) (g g' : List Bool) (i : Nat) : Prop where
  gone : Gone l g'
  more : More g g'
  asked : ∀ j, j < i → (∀ k ∈ aft l j, g[k]? = some true) → g'[j]? = some true

theorem Sweep.start {l : List Node} {g : List Bool} (h : Gone l g) : Sweep l g g 0 := ⟨h, .refl g, fun _ h => by omega⟩

theorem Sweep.next {l : List Node} {g g' : List Bool} {i : Nat} (h : Sweep l g g' i) (hi : i < l.length) {b : Bool}
    (hb : b = true ↔ ∀ k ∈ aft l i, g'[k]? = some true) (hv : ∀ k ∈ aft l i, k < l.length) {v : Bool} (hv' : v = (g'.getD i false || b)) : Sweep l g (g'.set i v) (i + 1) := by
  have hlen := h.gone.len
  have hmore : More g' (g'.set i v) := by
    intro j hj
    rw [List.getElem?_set]
    split
    · rename_i he; subst he
      rw [if_pos (by omega), hv', List.getD, hj]; simp
    · exact hj
  refine ⟨⟨by simp [hlen], ?_⟩, h.more.trans hmore, ?_⟩
  · intro j hj
    rw [List.getElem?_set] at hj
    split at hj
    · rename_i he; subst he
      rw [if_pos (by omega)] at hj
      simp [hv'] at hj
      rcases hj with hj | hj
      · exact h.gone.sound i (by
          rcases hx : g'[i]? with _ | x
          · simp [hx] at hj
          · simp [hx] at hj; rw [hj])
      · exact .mk i fun k hk => h.gone.sound k (hb.1 hj k hk)
    · exact h.gone.sound j hj
  · intro j hj hall
    rcases Nat.lt_or_ge j i with hlt | hge
    · exact hmore j (h.asked j hlt hall)
    · obtain rfl : j = i := by omega
      have : b = true := hb.2 fun k hk => h.more k (hall k hk)
      rw [List.getElem?_set, if_pos rfl, if_pos (by omega), hv', this]; simp

/-- behind r rounds: all are gone that ever go, or r at least are -/
def Far (l : List Node) (g : List Bool) (r : Nat) : Prop := Whole l g ∨ r ≤ g.count true

theorem exists_next {l : List Node} (hv : ∀ i, ∀ k ∈ aft l i, k < l.length) {g : List Bool} (hl : g.length = l.length) : Whole l g ∨ ∃ i, i < l.length ∧ g[i]? = some false ∧ ∀ k ∈ aft l i, g[k]? = some true := by
  by_cases hw : Whole l g
  · exact .inl hw
  · right
    have key : ∀ i, Ac l i → i < l.length → g[i]? = some true ∨ ∃ i, i < l.length ∧ g[i]? = some false ∧ ∀ k ∈ aft l i, g[k]? = some true := by
      intro i hi
      induction hi with
      | mk i _ ih =>
        intro hlt
        by_cases hall : ∀ k ∈ aft l i, g[k]? = some true
        · rcases hx : g[i]? with _ | x
          · rw [List.getElem?_eq_none_iff] at hx; omega
          · cases x with
            | true => exact .inl rfl
            | false => exact .inr ⟨i, hlt, hx, hall⟩
        · have ⟨k, hk⟩ : ∃ k, k ∈ aft l i ∧ ¬ g[k]? = some true := by
            apply Classical.byContradiction
            intro hn
            exact hall fun k hk => Classical.byContradiction fun hne => hn ⟨k, hk, hne⟩
          rcases ih k hk.1 (hv i k hk.1) with h | h
          · exact absurd h hk.2
          · exact .inr h
    apply Classical.byContradiction
    intro hn
    exact hw fun i hlt ha => (key i ha hlt).resolve_right hn

theorem Far.next {l : List Node} (hv : ∀ i, ∀ k ∈ aft l i, k < l.length) {g g' : List Bool} {r : Nat} (hg : Gone l g) (h : Far l g r) (s : Sweep l g g' l.length) : Far l g' (r + 1) := by
  rcases h with h | h
  · exact .inl fun i hi ha => s.more i (h i hi ha)
  · rcases exists_next hv hg.len with hw | ⟨i, hi, hf, hall⟩
    · exact .inl fun i hi ha => s.more i (hw i hi ha)
    · have := (more_count (by rw [hg.len, s.gone.len]) s.more).2 ⟨i, hf, s.asked i hi hall⟩
      exact .inr (by omega)

theorem Far.end_ {l : List Node} {g : List Bool} (hg : Gone l g) (h : Far l g l.length) : Whole l g := by
  rcases h with h | h
  · exact h
  · intro i hi _
    have hgl := hg.len; have hc : g.count true = g.length := by have := List.count_le_length (a := true) (l := g); omega
    have := List.count_eq_length.1 hc g[i] (List.getElem_mem (by omega))
    rw [List.getElem?_eq_getElem (by omega), ← this]

theorem Gone.iff {l : List Node} {g : List Bool} (hg : Gone l g) (h : Whole l g) (i : Nat) (hi : i < l.length) : g[i]? = some true ↔ Ac l i := ⟨hg.sound i, h i hi⟩

end FK
