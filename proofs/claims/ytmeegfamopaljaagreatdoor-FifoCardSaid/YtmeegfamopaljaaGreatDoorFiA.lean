/- Plain laws on flows: order of nodes, numbers as bytes. -/
namespace FK
structure Node where
  budget : Int
  close : Int
  beat : Int
  base : Int
  cap : Int
  jitter : Int
  after : List Int
  deriving Inhabited
structure Flow where
  deadline : Int
  nodes : List Node
  deriving Inhabited
def aft (l : List Node) (i : Nat) : List Nat := match l[i]? with | some n => n.after.map Int.toNat | none => []
inductive Ac (l : List Node) : Nat → Prop where
  | mk (i : Nat) (h : ∀ k, k ∈ aft l i → Ac l k) : Ac l i
theorem and_pred_testBit : ∀ t w, w.testBit t = true → (∀ j, j < t → w.testBit j = false) →
    ∀ j, (w &&& (w - 1)).testBit j = (w.testBit j && decide (j ≠ t)) := by
  intro t
  induction t with
  | zero =>
    intro w h1 _ j
    have ho : w % 2 = 1 := by simpa [Nat.testBit_zero] using h1
    rw [Nat.testBit_and]
    cases j with
    | zero => simp [Nat.testBit_zero]; omega
    | succ j =>
      rw [Nat.testBit_succ, Nat.testBit_succ, show (w - 1) / 2 = w / 2 by omega]; simp
  | succ t ih =>
    intro w h1 h2 j
    have he : w % 2 = 0 := by
      have := h2 0 (by omega)
      simp [Nat.testBit_zero] at this; omega
    have hp : 0 < w := by
      rcases Nat.eq_zero_or_pos w with h | h
      · subst h; simp at h1
      · exact h
    rw [Nat.testBit_succ] at h1
    have ih' := ih (w / 2) h1 (fun j hj => by have := h2 (j + 1) (by omega); rwa [Nat.testBit_succ] at this)
    rw [Nat.testBit_and]
    cases j with
    | zero => simp [Nat.testBit_zero]; omega
    | succ j =>
      have := ih' j
      rw [Nat.testBit_and] at this
      rw [Nat.testBit_succ, Nat.testBit_succ, show (w - 1) / 2 = w / 2 - 1 by omega, this]
      simp
def mask : List Nat → Nat
  | [] => 0
  | k :: l => (1 <<< k) ||| mask l
theorem testBit_one_shl (k j : Nat) : (1 <<< k).testBit j = decide (j = k) := by
  rw [Nat.one_shiftLeft, Nat.testBit_two_pow]; simp [eq_comm]
theorem mask_testBit (l : List Nat) (j : Nat) : (mask l).testBit j = decide (j ∈ l) := by
  induction l with
  | nil => simp [mask]
  | cons k l ih => rw [mask, Nat.testBit_or, ih, testBit_one_shl]; simp
theorem mask_append (a b : List Nat) : mask (a ++ b) = mask a ||| mask b := by
  induction a with
  | nil => simp [mask]
  | cons k a ih => simp [mask, ih, Nat.or_assoc]
theorem and_eq_zero_iff (a b : Nat) : a &&& b = 0 ↔ ∀ j, ¬ (a.testBit j = true ∧ b.testBit j = true) := by
  constructor
  · intro h j
    have := congrArg (fun x => x.testBit j) h
    simp [Nat.testBit_and] at this
    intro ⟨h1, h2⟩; simp [h1, h2] at this
  · intro h
    apply Nat.eq_of_testBit_eq
    intro j
    have := h j
    rw [Nat.testBit_and, Nat.zero_testBit]
    cases h1 : a.testBit j <;> cases h2 : b.testBit j <;> simp_all
theorem mask_and_zero (l : List Nat) (left : Nat) : mask l &&& left = 0 ↔ ∀ k ∈ l, left.testBit k = false := by
  rw [and_eq_zero_iff]
  constructor
  · intro h k hk
    have := h k
    rw [mask_testBit] at this
    simp [hk] at this; exact this
  · intro h j ⟨h1, h2⟩
    rw [mask_testBit] at h1
    have := h j (by simpa using h1)
    rw [this] at h2; cases h2
structure Ordering (l : List Node) (left : Nat) (told : List Nat) : Prop where
  bits : ∀ i, left.testBit i = true ↔ i < l.length ∧ i ∉ told
  lt : ∀ i ∈ told, i < l.length
  nodup : told.Nodup
  behind : ∀ a i b, told = a ++ i :: b → ∀ k ∈ aft l i, k < l.length → k ∈ a
theorem Ordering.start (l : List Node) : Ordering l (2 ^ l.length - 1) [] where
  bits := by intro i; simp [Nat.testBit_two_pow_sub_one]
  lt := by simp
  nodup := by simp
  behind := by intro a i b h; simp at h
theorem Ordering.tell {l : List Node} {left : Nat} {told : List Nat} (h : Ordering l left told) {i : Nat} (hi : left.testBit i = true)
    (hn : ∀ k ∈ aft l i, left.testBit k = false) {left' : Nat} (hl : ∀ j, left'.testBit j = (left.testBit j && decide (j ≠ i))) : Ordering l left' (told ++ [i]) where
  bits := by
    intro j
    rw [hl j]
    have := h.bits j
    simp
    constructor
    · rintro ⟨h1, h2⟩; exact ⟨(this.1 h1).1, (this.1 h1).2, h2⟩
    · rintro ⟨h1, h2, h3⟩; exact ⟨this.2 ⟨h1, h2⟩, h3⟩
  lt := by
    intro j hj
    simp at hj
    rcases hj with hj | rfl
    · exact h.lt j hj
    · exact ((h.bits j).1 hi).1
  nodup := by
    rw [List.nodup_append]
    refine ⟨h.nodup, by simp, ?_⟩
    intro a ha b hb
    simp at hb; subst hb
    rintro rfl
    exact ((h.bits _).1 hi).2 ha
  behind := by
    intro a j b hab k hk hlt
    rcases List.eq_nil_or_concat b with rfl | ⟨b', x, rfl⟩
    · have := List.append_inj' hab (by simp)
      obtain ⟨h1, h2⟩ := this
      simp at h2; subst h2; subst h1
      have := hn k hk
      have hb := h.bits k
      rw [this] at hb
      simp [hlt] at hb
      exact hb
    · rw [List.concat_eq_append, ← List.cons_append, ← List.append_assoc] at hab
      have := (List.append_inj' hab (by simp)).1
      exact h.behind a j b' this k hk hlt
theorem Ordering.ac {l : List Node} {left : Nat} {told : List Nat} (h : Ordering l left told) (hv : ∀ i, ∀ k ∈ aft l i, k < l.length) : ∀ i ∈ told, Ac l i := by
  have key : ∀ n, ∀ a b, told = a ++ b → a.length = n → ∀ i ∈ a, Ac l i := by
    intro n
    induction n using Nat.strongRecOn with
    | _ n ih =>
      intro a b hab hlen i hi
      obtain ⟨a1, a2, rfl⟩ := List.append_of_mem hi
      refine .mk i fun k hk => ?_
      have := h.behind a1 i (a2 ++ b) (by rw [hab]; simp) k hk (hv i k hk)
      exact ih a1.length (by rw [← hlen]; simp) a1 (i :: a2 ++ b) (by rw [hab]; simp) rfl k this
  intro i hi
  exact key _ told [] (by simp) rfl i hi
theorem Ordering.stuck {l : List Node} {left : Nat} {told : List Nat} (h : Ordering l left told) (hv : ∀ i, ∀ k ∈ aft l i, k < l.length)
    (hs : ∀ i, left.testBit i = true → ∃ k ∈ aft l i, left.testBit k = true) (i : Nat) : left.testBit i = true ↔ i < l.length ∧ ¬ Ac l i := by
  have key : ∀ i, Ac l i → left.testBit i = false := by
    intro i hi
    induction hi with
    | mk i _ ih =>
      cases hb : left.testBit i with
      | false => rfl
      | true =>
        obtain ⟨k, hk, hb'⟩ := hs i hb
        rw [ih k hk] at hb'; cases hb'
  constructor
  · intro hb
    refine ⟨((h.bits i).1 hb).1, fun ha => ?_⟩
    rw [key i ha] at hb; cases hb
  · intro ⟨h1, h2⟩
    refine (h.bits i).2 ⟨h1, fun hm => h2 (h.ac hv i hm)⟩
structure Gone (l : List Node) (g : List Bool) : Prop where
  len : g.length = l.length
  sound : ∀ i, g[i]? = some true → Ac l i
def Whole (l : List Node) (g : List Bool) : Prop := ∀ i, i < l.length → Ac l i → g[i]? = some true
theorem Gone.start (l : List Node) : Gone l (List.replicate l.length false) where
  len := by simp
  sound := by intro i h; simp [List.getElem?_replicate] at h
def More (g g' : List Bool) : Prop := ∀ i : Nat, g[i]? = some true → g'[i]? = some true
theorem More.refl (g : List Bool) : More g g := fun _ h => h
theorem More.trans {a b c : List Bool} (h : More a b) (k : More b c) : More a c := fun i x => k i (h i x)
theorem more_count : ∀ {g g' : List Bool}, g.length = g'.length → More g g' → g.count true ≤ g'.count true ∧ ((∃ i : Nat, g[i]? = some false ∧ g'[i]? = some true) → g.count true < g'.count true) := by
  intro g
  induction g with
  | nil => intro g' hl _; exact ⟨by simp, fun ⟨i, h, _⟩ => by simp at h⟩
  | cons b g ih =>
    intro g' hl hm
    cases g' with
    | nil => simp at hl
    | cons b' g' =>
      have hm' : More g g' := fun i h => by have := hm (i + 1) (by simpa using h); simpa using this
      obtain ⟨h1, h2⟩ := ih (by simpa using hl) hm'
      have h0 : b = true → b' = true := fun hb => by have := hm 0 (by simp [hb]); simpa using this
      have hc : ∀ x : Bool, (if x == true then 1 else 0) = (if x = true then 1 else 0) := by intro x; cases x <;> rfl
      simp only [List.count_cons]
      refine ⟨by cases b <;> cases b' <;> simp at h0 ⊢ <;> omega, ?_⟩
      rintro ⟨i, hi, hi'⟩
      cases i with
      | zero => simp at hi hi'; subst hi hi'; simp; omega
      | succ i =>
        simp at hi hi'
        have := h2 ⟨i, hi, hi'⟩
        cases b <;> cases b' <;> simp_all <;> omega
structure Sweep (l : List Node) (g g' : List Bool) (i : Nat) : Prop where
  gone : Gone l g'
  more : More g g'
  asked : ∀ j, j < i → (∀ k ∈ aft l j, g[k]? = some true) → g'[j]? = some true
theorem Sweep.start {l : List Node} {g : List Bool} (h : Gone l g) : Sweep l g g 0 := ⟨h, .refl g, fun _ h => by omega⟩
theorem Sweep.next {l : List Node} {g g' : List Bool} {i : Nat} (h : Sweep l g g' i) (hi : i < l.length) {b : Bool}
    (hb : b = true ↔ ∀ k ∈ aft l i, g'[k]? = some true) (hv : ∀ k ∈ aft l i, k < l.length) {v : Bool} (hv' : v = (g'.getD i false || b)) : Sweep l g (g'.set i v) (i + 1) := by
  have hlen := h.gone.len
  have hmore : More g' (g'.set i v) := by
    intro j hj
    rw [List.getElem?_set]
    split
    · rename_i he; subst he
      rw [if_pos (by omega), hv', List.getD, hj]; simp
    · exact hj
  refine ⟨⟨by simp [hlen], ?_⟩, h.more.trans hmore, ?_⟩
  · intro j hj
    rw [List.getElem?_set] at hj
    split at hj
    · rename_i he; subst he
      rw [if_pos (by omega)] at hj
      simp [hv'] at hj
      rcases hj with hj | hj
      · exact h.gone.sound i (by
          rcases hx : g'[i]? with _ | x
          · simp [hx] at hj
          · simp [hx] at hj; rw [hj])
      · exact .mk i fun k hk => h.gone.sound k (hb.1 hj k hk)
    · exact h.gone.sound j hj
  · intro j hj hall
    rcases Nat.lt_or_ge j i with hlt | hge
    · exact hmore j (h.asked j hlt hall)
    · obtain rfl : j = i := by omega
      have : b = true := hb.2 fun k hk => h.more k (hall k hk)
      rw [List.getElem?_set, if_pos rfl, if_pos (by omega), hv', this]; simp
def Far (l : List Node) (g : List Bool) (r : Nat) : Prop := Whole l g ∨ r ≤ g.count true
theorem exists_next {l : List Node} (hv : ∀ i, ∀ k ∈ aft l i, k < l.length) {g : List Bool} (hl : g.length = l.length) : Whole l g ∨ ∃ i, i < l.length ∧ g[i]? = some false ∧ ∀ k ∈ aft l i, g[k]? = some true := by
  by_cases hw : Whole l g
  · exact .inl hw
  · right
    have key : ∀ i, Ac l i → i < l.length → g[i]? = some true ∨ ∃ i, i < l.length ∧ g[i]? = some false ∧ ∀ k ∈ aft l i, g[k]? = some true := by
      intro i hi
      induction hi with
      | mk i _ ih =>
        intro hlt
        by_cases hall : ∀ k ∈ aft l i, g[k]? = some true
        · rcases hx : g[i]? with _ | x
          · rw [List.getElem?_eq_none_iff] at hx; omega
          · cases x with
            | true => exact .inl rfl
            | false => exact .inr ⟨i, hlt, hx, hall⟩
        · have ⟨k, hk⟩ : ∃ k, k ∈ aft l i ∧ ¬ g[k]? = some true := by
            apply Classical.byContradiction
            intro hn
            exact hall fun k hk => Classical.byContradiction fun hne => hn ⟨k, hk, hne⟩
          rcases ih k hk.1 (hv i k hk.1) with h | h
          · exact absurd h hk.2
          · exact .inr h
    apply Classical.byContradiction
    intro hn
    exact hw fun i hlt ha => (key i ha hlt).resolve_right hn
theorem Far.next {l : List Node} (hv : ∀ i, ∀ k ∈ aft l i, k < l.length) {g g' : List Bool} {r : Nat} (hg : Gone l g) (h : Far l g r) (s : Sweep l g g' l.length) : Far l g' (r + 1) := by
  rcases h with h | h
  · exact .inl fun i hi ha => s.more i (h i hi ha)
  · rcases exists_next hv hg.len with hw | ⟨i, hi, hf, hall⟩
    · exact .inl fun i hi ha => s.more i (hw i hi ha)
    · have := (more_count (by rw [hg.len, s.gone.len]) s.more).2 ⟨i, hf, s.asked i hi hall⟩
      exact .inr (by omega)
end FK

namespace FK
def span (n low : Int) : Prop := low ≤ n ∧ n ≤ 1048576
instance (n low : Int) : Decidable (span n low) := inferInstanceAs (Decidable (_ ∧ _))
def NodeOk (n : Node) : Prop := 1 ≤ n.budget ∧ n.budget ≤ 5 ∧ span n.close 1 ∧ span n.beat 0 ∧ span n.base 1 ∧ span n.cap n.base ∧ span n.jitter 0
def EdgesOk (len : Nat) : Int → List Int → Prop
  | _, [] => True
  | p, k :: r => p < k ∧ k < len ∧ EdgesOk len k r
def HeadOk (f : Flow) : Prop := span f.deadline 1 ∧ 1 ≤ f.nodes.length ∧ f.nodes.length ≤ 12
def OkTo (f : Flow) (i : Nat) : Prop := ∀ j n, j < i → f.nodes[j]? = some n → NodeOk n ∧ EdgesOk f.nodes.length (-1) n.after
inductive Checked (f : Flow) : Int → Int → Prop where
  | head (h : ¬ HeadOk f) : Checked f 2 (-1)
  | bound (i : Nat) (n : Node) (h : HeadOk f) (ho : OkTo f i) (hn : f.nodes[i]? = some n) (hb : ¬ NodeOk n) : Checked f 2 i
  | edge (i : Nat) (n : Node) (h : HeadOk f) (ho : OkTo f i) (hn : f.nodes[i]? = some n) (hb : NodeOk n) (he : ¬ EdgesOk f.nodes.length (-1) n.after) : Checked f 3 i
  | cycle (i : Nat) (h : HeadOk f) (ho : OkTo f f.nodes.length) (hi : i < f.nodes.length) (hn : ¬ Ac f.nodes i) (hl : ∀ j, j < i → Ac f.nodes j) : Checked f 4 i
  | ok (h : HeadOk f) (ho : OkTo f f.nodes.length) (ha : ∀ i, i < f.nodes.length → Ac f.nodes i) : Checked f 0 (-1)
theorem lt_of_some {α : Type} {l : List α} {i : Nat} {x : α} (h : l[i]? = some x) : i < l.length := (List.getElem?_eq_some_iff.1 h).1
theorem first_fault {f : Flow} {i j : Nat} {n m : Node} (hi : OkTo f i) (hj : OkTo f j) (hn : f.nodes[i]? = some n) (hm : f.nodes[j]? = some m)
    (bi : ¬ (NodeOk n ∧ EdgesOk f.nodes.length (-1) n.after)) (bj : ¬ (NodeOk m ∧ EdgesOk f.nodes.length (-1) m.after)) : i = j := by
  rcases Nat.lt_trichotomy i j with h | h | h
  · exact absurd (hj i n h hn) bi
  · exact h
  · exact absurd (hi j m h hm) bj
theorem Checked.unique {f : Flow} {e a e' a' : Int} (h : Checked f e a) (h' : Checked f e' a') : e = e' ∧ a = a' := by
  cases h with
  | head h => cases h' <;> first | exact ⟨rfl, rfl⟩ | contradiction
  | bound i n h ho hn hb =>
    have b1 : ¬ (NodeOk n ∧ EdgesOk f.nodes.length (-1) n.after) := fun x => hb x.1
    cases h' with
    | head h' => contradiction
    | bound j m _ ho' hm hb' => obtain rfl := first_fault ho ho' hn hm b1 (fun x => hb' x.1); exact ⟨rfl, rfl⟩
    | edge j m _ ho' hm hb' he =>
      obtain rfl := first_fault ho ho' hn hm b1 (fun x => he x.2)
      rw [hn] at hm; cases hm; contradiction
    | cycle j _ ho' => exact absurd (ho' i n (lt_of_some hn) hn) b1
    | ok _ ho' => exact absurd (ho' i n (lt_of_some hn) hn) b1
  | edge i n h ho hn hb he =>
    have b1 : ¬ (NodeOk n ∧ EdgesOk f.nodes.length (-1) n.after) := fun x => he x.2
    cases h' with
    | head h' => contradiction
    | bound j m _ ho' hm hb' =>
      obtain rfl := first_fault ho ho' hn hm b1 (fun x => hb' x.1)
      rw [hn] at hm; cases hm; contradiction
    | edge j m _ ho' hm hb' he' => obtain rfl := first_fault ho ho' hn hm b1 (fun x => he' x.2); exact ⟨rfl, rfl⟩
    | cycle j _ ho' => exact absurd (ho' i n (lt_of_some hn) hn) b1
    | ok _ ho' => exact absurd (ho' i n (lt_of_some hn) hn) b1
  | cycle i h ho hi hn hl =>
    cases h' with
    | head h' => contradiction
    | bound j m _ ho' hm hb' => exact absurd (ho j m (lt_of_some hm) hm).1 hb'
    | edge j m _ ho' hm hb' he => exact absurd (ho j m (lt_of_some hm) hm).2 he
    | cycle j _ _ hj hn' hl' =>
      rcases Nat.lt_trichotomy i j with h | h | h
      · exact absurd (hl' i h) hn
      · subst h; exact ⟨rfl, rfl⟩
      · exact absurd (hl j h) hn'
    | ok _ _ ha => exact absurd (ha i hi) hn
  | ok h ho ha =>
    cases h' with
    | head h' => contradiction
    | bound j m _ ho' hm hb' => exact absurd (ho j m (lt_of_some hm) hm).1 hb'
    | edge j m _ ho' hm hb' he => exact absurd (ho j m (lt_of_some hm) hm).2 he
    | cycle j _ _ hj hn' _ => exact absurd (ha j hj) hn'
    | ok => exact ⟨rfl, rfl⟩
open Classical in
noncomputable def chk (f : Flow) : Int × Int := if h : ∃ p : Int × Int, Checked f p.1 p.2 then choose h else (0, 0)
theorem Checked.chk {f : Flow} {e a : Int} (h : Checked f e a) : chk f = (e, a) := by
  have hx : ∃ p : Int × Int, Checked f p.1 p.2 := ⟨(e, a), h⟩
  unfold FK.chk
  rw [dif_pos hx]
  have hc := Classical.choose_spec hx
  have ⟨h1, h2⟩ := hc.unique h
  exact Prod.ext h1 h2
theorem aft_of {l : List Node} {i : Nat} {n : Node} (h : l[i]? = some n) : aft l i = n.after.map Int.toNat := by simp [aft, h]
theorem EdgesOk.bounds {len : Nat} : ∀ {p : Int} {l : List Int}, EdgesOk len p l → ∀ k ∈ l, p < k ∧ k < len := by
  intro p l
  induction l generalizing p with
  | nil => intro _ k hk; simp at hk
  | cons a l ih =>
    intro ⟨h1, h2, h3⟩ k hk
    simp at hk
    rcases hk with rfl | hk
    · exact ⟨h1, h2⟩
    · have := ih h3 k hk; omega
theorem OkTo.aft_lt {f : Flow} (h : OkTo f f.nodes.length) (i : Nat) : ∀ k ∈ aft f.nodes i, k < f.nodes.length := by
  intro k hk
  unfold aft at hk
  split at hk
  · rename_i n hn
    simp at hk
    obtain ⟨x, hx, rfl⟩ := hk
    have := (h i n (lt_of_some hn) hn).2.bounds x hx
    omega
  · simp at hk
theorem EdgesOk.length_le {len : Nat} : ∀ {p : Int} {l : List Int}, EdgesOk len p l → -1 ≤ p → l.length + (p + 1).toNat ≤ len ∨ l = [] := by
  intro p l
  induction l generalizing p with
  | nil => intro _ _; exact .inr rfl
  | cons a l ih =>
    intro ⟨h1, h2, h3⟩ hp
    left
    rcases ih h3 (by omega) with h | h
    · simp; omega
    · subst h; simp; omega
theorem least {p : Nat → Prop} {n : Nat} (h : p n) : ∃ m, m ≤ n ∧ p m ∧ ∀ j, j < m → ¬ p j := by
  induction n using Nat.strongRecOn with
  | _ n ih =>
    by_cases hx : ∃ j, j < n ∧ p j
    · obtain ⟨j, hj, hp⟩ := hx
      obtain ⟨m, h1, h2, h3⟩ := ih j hj hp
      exact ⟨m, by omega, h2, h3⟩
    · exact ⟨n, Nat.le_refl _, h, fun j hj hp => hx ⟨j, hj, hp⟩⟩
theorem Checked.total (f : Flow) : ∃ e a, Checked f e a := by
  by_cases hh : HeadOk f
  · by_cases ho : OkTo f f.nodes.length
    · by_cases ha : ∃ i, i < f.nodes.length ∧ ¬ Ac f.nodes i
      · obtain ⟨i, hi⟩ := ha
        obtain ⟨m, h1, h2, h3⟩ := least (p := fun i => i < f.nodes.length ∧ ¬ Ac f.nodes i) hi
        exact ⟨_, _, .cycle m hh ho h2.1 h2.2 fun j hj => Classical.byContradiction fun hn => h3 j hj ⟨by omega, hn⟩⟩
      · exact ⟨_, _, .ok hh ho fun i hi => Classical.byContradiction fun hn => ha ⟨i, hi, hn⟩⟩
    · have hx : ∃ i : Nat, ∃ n, f.nodes[i]? = some n ∧ ¬ (NodeOk n ∧ EdgesOk f.nodes.length (-1) n.after) := by
        apply Classical.byContradiction
        intro hn
        exact ho fun j n _ hj => Classical.byContradiction fun hb => hn ⟨j, n, hj, hb⟩
      obtain ⟨i, hi⟩ := hx
      obtain ⟨m, _, ⟨n, h1, h2⟩, h3⟩ := least (p := fun i : Nat => ∃ n, f.nodes[i]? = some n ∧ ¬ (NodeOk n ∧ EdgesOk f.nodes.length (-1) n.after)) hi
      have hok : OkTo f m := fun j x hj hx => Classical.byContradiction fun hb => h3 j hj ⟨x, hx, hb⟩
      by_cases hb : NodeOk n
      · exact ⟨_, _, .edge m n hh hok h1 hb fun he => h2 ⟨hb, he⟩⟩
      · exact ⟨_, _, .bound m n hh hok h1 hb⟩
  · exact ⟨_, _, .head hh⟩
theorem chk_checked (f : Flow) : Checked f (chk f).1 (chk f).2 := by
  obtain ⟨e, a, h⟩ := Checked.total f
  rw [h.chk]; exact h
structure Fit (f : Flow) : Prop where
  head : HeadOk f
  nodes : OkTo f f.nodes.length
  ac : ∀ i, i < f.nodes.length → Ac f.nodes i
theorem chk_zero {f : Flow} (h : (chk f).1 = 0) : Fit f := by
  have hc := chk_checked f
  rw [h] at hc
  generalize (chk f).2 = a at hc
  generalize he : (0 : Int) = e at hc
  cases hc with
  | ok h ho ha => exact ⟨h, ho, ha⟩
  | _ => omega
theorem Fit.chk {f : Flow} (h : Fit f) : chk f = (0, -1) := (Checked.ok h.head h.nodes h.ac).chk
def encN (n : Nat) : List UInt8 := if n < 128 then [UInt8.ofNat n] else UInt8.ofNat (n % 128 + 128) :: encN (n / 128)
termination_by n
def encNode (n : Node) : List UInt8 :=
  encN n.budget.toNat ++ encN n.close.toNat ++ encN n.beat.toNat ++ encN n.base.toNat ++ encN n.cap.toNat ++ encN n.jitter.toNat ++ encN n.after.length ++ n.after.flatMap fun k => encN k.toNat
def encFlow (f : Flow) : List UInt8 := encN f.deadline.toNat ++ encN f.nodes.length ++ f.nodes.flatMap encNode
def rd (b : List UInt8) (p : Nat) : Except Nat (Nat × Nat) :=
  match b[p]? with
  | none => .error p
  | some c => if c.toNat < 128 then .ok (c.toNat, p + 1) else
    match b[p + 1]? with
    | none => .error p
    | some d => if d.toNat < 128 then (if d.toNat = 0 then .error p else .ok (c.toNat % 128 + d.toNat * 128, p + 2)) else
      match b[p + 2]? with
      | none => .error p
      | some e => if e.toNat < 128 then (if e.toNat = 0 then .error p else .ok (c.toNat % 128 + d.toNat % 128 * 128 + e.toNat * 16384, p + 3)) else .error p
abbrev Rd (α : Type) := Nat → Except Nat (α × Nat)
def many {α : Type} (r : Rd α) : Nat → List α → Rd (List α)
  | 0, l, p => .ok (l, p)
  | n + 1, l, p => match r p with
    | .error e => .error e
    | .ok (x, p') => many r n (l ++ [x]) p'
def rdInt (b : List UInt8) : Rd Int := fun p => match rd b p with
  | .error e => .error e
  | .ok (n, p') => .ok ((n : Int), p')
def rdList {α : Type} (b : List UInt8) (r : Rd α) : Rd (List α) := fun p => match rd b p with
  | .error e => .error e
  | .ok (n, p') => many r n [] p'
def andThen {α β : Type} (r : Except Nat (α × Nat)) (k : α → Rd β) : Except Nat (β × Nat) := match r with
  | .error e => .error e
  | .ok (x, p) => k x p
def rdNode (b : List UInt8) : Rd Node := fun p =>
  andThen (rdInt b p) fun budget p => andThen (rdInt b p) fun close p => andThen (rdInt b p) fun beat p => andThen (rdInt b p) fun base p =>
  andThen (rdInt b p) fun cap p => andThen (rdInt b p) fun jitter p => andThen (rdList b (rdInt b) p) fun after p => .ok (⟨budget, close, beat, base, cap, jitter, after⟩, p)
def rdFlow (b : List UInt8) : Rd Flow := fun p =>
  andThen (rdInt b p) fun deadline p => andThen (rdList b (rdNode b) p) fun nodes p => .ok (⟨deadline, nodes⟩, p)
noncomputable def dec (b : List UInt8) : Except (Int × Int) Flow := match rdFlow b 0 with
  | .error e => .error (1, (e : Int))
  | .ok (f, p) => if p < b.length then .error (1, (p : Int)) else if (chk f).1 = 0 then .ok f else .error (chk f)
end FK

namespace FK
def At (b : List UInt8) (p : Nat) (l : List UInt8) : Prop := ∀ i, i < l.length → b[p + i]? = l[i]?
theorem At.append {b : List UInt8} {p : Nat} {l m : List UInt8} (h : At b p (l ++ m)) : At b p l ∧ At b (p + l.length) m := by
  constructor
  · intro i hi
    rw [h i (by simp; omega), List.getElem?_append_left hi]
  · intro i hi
    have := h (l.length + i) (by simp; omega)
    rw [Nat.add_assoc, this, List.getElem?_append_right (by omega)]
    congr 1; omega
theorem At.whole (b : List UInt8) : At b 0 b := by intro i _; simp
theorem encN_lt {n : Nat} (h : n < 128) : encN n = [UInt8.ofNat n] := by rw [encN, if_pos h]
theorem encN_ge {n : Nat} (h : ¬ n < 128) : encN n = UInt8.ofNat (n % 128 + 128) :: encN (n / 128) := by rw [encN, if_neg h]
theorem encN_length_le {n : Nat} (h : n < 2097152) : (encN n).length ≤ 3 := by
  by_cases h1 : n < 128
  · rw [encN_lt h1]; simp
  · rw [encN_ge h1]
    by_cases h2 : n / 128 < 128
    · rw [encN_lt h2]; simp
    · rw [encN_ge h2, encN_lt (by omega)]; simp
theorem rd_encN {b : List UInt8} {p n : Nat} (hn : n < 2097152) (h : At b p (encN n)) : rd b p = .ok (n, p + (encN n).length) := by
  by_cases h1 : n < 128
  · rw [encN_lt h1] at h ⊢
    have h0 := h 0 (by simp)
    simp at h0
    unfold rd
    rw [h0]
    have : (UInt8.ofNat n).toNat = n := by simp; omega
    simp only [this]
    rw [if_pos h1]; simp
  · rw [encN_ge h1] at h ⊢
    by_cases h2 : n / 128 < 128
    · rw [encN_lt h2] at h ⊢
      have h0 := h 0 (by simp)
      have h1' := h 1 (by simp)
      simp only [Nat.add_zero, List.getElem?_cons_zero, List.getElem?_cons_succ] at h0 h1'
      have e0 : (UInt8.ofNat (n % 128 + 128)).toNat = n % 128 + 128 := by simp; omega
      have e1 : (UInt8.ofNat (n / 128)).toNat = n / 128 := by simp; omega
      unfold rd
      rw [h0]
      simp only [e0]
      rw [if_neg (by omega), h1']
      simp only [e1]
      rw [if_pos h2, if_neg (by omega)]
      simp; omega
    · rw [encN_ge h2, encN_lt (n := n / 128 / 128) (by omega)] at h ⊢
      have h0 := h 0 (by simp)
      have h1' := h 1 (by simp)
      have h2' := h 2 (by simp)
      simp only [Nat.add_zero, List.getElem?_cons_zero, List.getElem?_cons_succ] at h0 h1' h2'
      have e0 : (UInt8.ofNat (n % 128 + 128)).toNat = n % 128 + 128 := by simp; omega
      have e1 : (UInt8.ofNat (n / 128 % 128 + 128)).toNat = n / 128 % 128 + 128 := by simp; omega
      have e2 : (UInt8.ofNat (n / 128 / 128)).toNat = n / 128 / 128 := by simp; omega
      unfold rd
      rw [h0]
      simp only [e0]
      rw [if_neg (by omega), h1']
      simp only [e1]
      rw [if_neg (by omega), h2']
      simp only [e2]
      rw [if_pos (by omega), if_neg (by omega)]
      simp; omega
theorem rdInt_encN {b : List UInt8} {p : Nat} {n : Int} (h0 : 0 ≤ n) (hn : n < 2097152) (h : At b p (encN n.toNat)) : rdInt b p = .ok (n, p + (encN n.toNat).length) := by
  unfold rdInt
  rw [rd_encN (by omega) h]
  simp; omega
theorem many_of {α : Type} {b : List UInt8} (r : Rd α) (enc : α → List UInt8) : ∀ (xs l : List α) (p : Nat), (∀ x ∈ xs, ∀ p, At b p (enc x) → r p = .ok (x, p + (enc x).length)) →
    At b p (xs.flatMap enc) → many r xs.length l p = .ok (l ++ xs, p + (xs.flatMap enc).length)
  | [], l, p, _, _ => by simp [many]
  | x :: xs, l, p, hr, h => by
    rw [List.flatMap_cons] at h
    have ⟨h1, h2⟩ := h.append
    simp only [List.length_cons, many]
    rw [hr x (by simp) p h1]
    simp only
    rw [many_of r enc xs (l ++ [x]) _ (fun y hy => hr y (by simp [hy])) h2]
    simp; omega
theorem rdList_of {α : Type} {b : List UInt8} (r : Rd α) (enc : α → List UInt8) (xs : List α) (p : Nat) (hl : xs.length < 2097152) (hr : ∀ x ∈ xs, ∀ p, At b p (enc x) → r p = .ok (x, p + (enc x).length))
    (h : At b p (encN xs.length ++ xs.flatMap enc)) : rdList b r p = .ok (xs, p + (encN xs.length ++ xs.flatMap enc).length) := by
  have ⟨h1, h2⟩ := h.append
  unfold rdList
  rw [rd_encN hl h1]
  simp only
  rw [many_of r enc xs [] _ hr h2]
  simp; omega
theorem rdNode_of {b : List UInt8} {p : Nat} {n : Node} {len : Nat} (hlen : len ≤ 12) (hn : NodeOk n) (he : EdgesOk len (-1) n.after) (h : At b p (encNode n)) : rdNode b p = .ok (n, p + (encNode n).length) := by
  obtain ⟨a1, a2, ⟨b1, b2⟩, ⟨c1, c2⟩, ⟨d1, d2⟩, ⟨e1, e2⟩, f1, f2⟩ := hn
  have hlen' : (encNode n).length = (encN n.budget.toNat).length + ((encN n.close.toNat).length + ((encN n.beat.toNat).length + ((encN n.base.toNat).length + ((encN n.cap.toNat).length + ((encN n.jitter.toNat).length + (encN n.after.length ++ n.after.flatMap fun k => encN k.toNat).length))))) := by
    simp [encNode]
  have h' : At b p (encN n.budget.toNat ++ (encN n.close.toNat ++ (encN n.beat.toNat ++ (encN n.base.toNat ++ (encN n.cap.toNat ++ (encN n.jitter.toNat ++ (encN n.after.length ++ n.after.flatMap fun k => encN k.toNat))))))) := by
    simpa [encNode] using h
  have ⟨g1, r1⟩ := h'.append
  have ⟨g2, r2⟩ := r1.append
  have ⟨g3, r3⟩ := r2.append
  have ⟨g4, r4⟩ := r3.append
  have ⟨g5, r5⟩ := r4.append
  have ⟨g6, r6⟩ := r5.append
  unfold rdNode
  rw [rdInt_encN (by omega) (by omega) g1]; simp only [andThen]
  rw [rdInt_encN (by omega) (by omega) g2]; simp only
  rw [rdInt_encN (by omega) (by omega) g3]; simp only
  rw [rdInt_encN (by omega) (by omega) g4]; simp only
  rw [rdInt_encN (by omega) (by omega) g5]; simp only
  rw [rdInt_encN (by omega) (by omega) g6]; simp only
  have hb := he.bounds
  have hal : n.after.length < 2097152 := by
    rcases he.length_le (by omega) with h | h
    · omega
    · rw [h]; simp
  rw [rdList_of (rdInt b) (fun k => encN k.toNat) n.after _ hal (fun x hx q hq => rdInt_encN (by have := hb x hx; omega) (by have := hb x hx; omega) hq) r6]
  simp only
  rw [hlen']
  congr 2
  omega
theorem rdFlow_of {b : List UInt8} {p : Nat} {f : Flow} (hh : HeadOk f) (ho : OkTo f f.nodes.length) (h : At b p (encFlow f)) : rdFlow b p = .ok (f, p + (encFlow f).length) := by
  obtain ⟨⟨a1, a2⟩, a3, a4⟩ := hh
  have h' : At b p (encN f.deadline.toNat ++ (encN f.nodes.length ++ f.nodes.flatMap encNode)) := by simpa [encFlow] using h
  have ⟨g1, r1⟩ := h'.append
  unfold rdFlow
  rw [rdInt_encN (by omega) (by omega) g1]; simp only [andThen]
  rw [rdList_of (rdNode b) encNode f.nodes _ (by omega) (fun x hx q hq => by
    obtain ⟨i, hi, hx⟩ := List.mem_iff_getElem.1 hx
    have := ho i x hi (by rw [List.getElem?_eq_getElem hi, hx])
    exact rdNode_of a4 this.1 this.2 hq) r1]
  simp only
  have : (encFlow f).length = (encN f.deadline.toNat).length + (encN f.nodes.length ++ f.nodes.flatMap encNode).length := by simp [encFlow]
  rw [this]
  congr 2
  omega
theorem dec_enc {f : Flow} (h : Fit f) : dec (encFlow f) = .ok f := by
  unfold dec
  rw [rdFlow_of h.head h.nodes (At.whole _)]
  simp [h.chk]
end FK

namespace FK
structure Tm (K : Type) where
  key : K
  due : Nat
  seq : Nat
def lev (now due : Nat) : Nat := Nat.log2 (due ^^^ now) / 6
def slt (l due : Nat) : Nat := due / 64 ^ l % 64
theorem pow64 (l : Nat) : 64 ^ l = 2 ^ (6 * l) := by rw [Nat.pow_mul]
theorem xor_div (a b k : Nat) : (a ^^^ b) / 2 ^ k = (a / 2 ^ k) ^^^ (b / 2 ^ k) := by
  rw [← Nat.shiftRight_eq_div_pow, ← Nat.shiftRight_eq_div_pow, ← Nat.shiftRight_eq_div_pow, Nat.shiftRight_xor_distrib]
theorem xor_zero_iff (a b : Nat) : a ^^^ b = 0 ↔ a = b := by
  constructor
  · intro h
    apply Nat.eq_of_testBit_eq
    intro i
    have := congrArg (fun x => x.testBit i) h
    simp [Nat.testBit_xor] at this
    exact this
  · rintro rfl; exact Nat.xor_self a
theorem lev_lt {now due l : Nat} (hl : 1 ≤ l) : lev now due < l ↔ due / 64 ^ l = now / 64 ^ l := by
  rw [pow64, ← xor_zero_iff, ← xor_div]
  unfold lev
  rw [Nat.div_lt_iff_lt_mul (by omega), Nat.div_eq_zero_iff]
  have hp : 0 < 2 ^ (6 * l) := Nat.two_pow_pos _
  by_cases h0 : due ^^^ now = 0
  · rw [h0]; simp; omega
  · rw [Nat.log2_lt h0, Nat.mul_comm l 6]; omega
theorem lev_le {now due l : Nat} : lev now due ≤ l ↔ due / 64 ^ (l + 1) = now / 64 ^ (l + 1) := by
  rw [← lev_lt (by omega)]; omega
theorem lev_ge {now due l : Nat} (hl : 1 ≤ l) : l ≤ lev now due ↔ due / 64 ^ l ≠ now / 64 ^ l := by
  have := lev_lt (now := now) (due := due) hl; omega
theorem lev_le_ten {now due : Nat} (h1 : now ≤ 2 ^ 62) (h2 : due ≤ 2 ^ 62) : lev now due ≤ 10 := by
  rw [lev_le]
  have e : (64 : Nat) ^ (10 + 1) = 2 ^ 66 := by decide
  rw [e, Nat.div_eq_of_lt (by omega), Nat.div_eq_of_lt (by omega)]
theorem div_succ (a l : Nat) : a / 64 ^ (l + 1) = a / 64 ^ l / 64 := by rw [Nat.div_div_eq_div_mul, Nat.pow_succ]
theorem slt_lt (l due : Nat) : slt l due < 64 := Nat.mod_lt _ (by omega)
theorem div_of {now due l : Nat} (h : lev now due ≤ l) : due / 64 ^ l = now / 64 ^ (l + 1) * 64 + slt l due := by
  have h1 := lev_le.1 h
  rw [div_succ] at h1
  unfold slt
  have := Nat.div_add_mod (due / 64 ^ l) 64
  omega
theorem div_lt_div {a b k : Nat} (h : a / k < b / k) : a < b := by
  rcases Nat.lt_or_ge a b with h' | h'
  · exact h'
  · have := Nat.div_le_div_right (c := k) h'; omega
theorem lt_of_lev {now a b : Nat} (hb : now ≤ b) (h : lev now a < lev now b) : a < b := by
  have h1 : 1 ≤ lev now b := by omega
  have h2 := (lev_ge h1).1 (Nat.le_refl _)
  have h3 := (lev_lt h1).1 h
  have h4 := Nat.div_le_div_right (c := 64 ^ lev now b) hb
  exact div_lt_div (k := 64 ^ lev now b) (by omega)
theorem lt_of_slot {now a b l : Nat} (ha : lev now a ≤ l) (hb : lev now b ≤ l) (h : slt l a < slt l b) : a < b := by
  have h1 := div_of ha
  have h2 := div_of hb
  exact div_lt_div (k := 64 ^ l) (by omega)
def startOf (now l s : Nat) : Nat := now / 64 ^ (l + 1) * 64 ^ (l + 1) + s * 64 ^ l
theorem startOf_eq (now l s : Nat) : startOf now l s = (now / 64 ^ (l + 1) * 64 + s) * 64 ^ l := by
  unfold startOf
  rw [Nat.pow_succ, Nat.add_mul, Nat.mul_assoc, Nat.mul_comm 64]
theorem startOf_div {now l s : Nat} : startOf now l s / 64 ^ l = now / 64 ^ (l + 1) * 64 + s := by
  rw [startOf_eq, Nat.mul_div_cancel _ (Nat.pow_pos (by omega))]
theorem startOf_div_succ {now l s : Nat} (hs : s < 64) : startOf now l s / 64 ^ (l + 1) = now / 64 ^ (l + 1) := by
  rw [div_succ, startOf_div]; omega
theorem start_le {now due l : Nat} (h : lev now due ≤ l) : startOf now l (slt l due) ≤ due := by
  rw [startOf_eq, ← div_of h]
  exact Nat.div_mul_le_self _ _
theorem start_zero {now due : Nat} (h : lev now due = 0) : startOf now 0 (slt 0 due) = due := by
  rw [startOf_eq, ← div_of (by omega)]; simp
theorem now_lt_start {now due l : Nat} (hl : 1 ≤ l) (h : lev now due = l) (hn : now ≤ due) : now < startOf now l (slt l due) := by
  apply div_lt_div (k := 64 ^ l)
  rw [startOf_div, ← div_of (by omega)]
  have h1 := (lev_ge hl).1 (Nat.le_of_eq h.symm)
  have := Nat.div_le_div_right (c := 64 ^ l) hn
  omega
theorem lev_stays {now now' due : Nat} (h1 : now' / 64 ^ (lev now due + 1) = now / 64 ^ (lev now due + 1)) (h2 : 1 ≤ lev now due → now' / 64 ^ lev now due ≠ due / 64 ^ lev now due) : lev now' due = lev now due := by
  have h3 : lev now' due ≤ lev now due := by rw [lev_le, h1, ← lev_le]; exact Nat.le_refl _
  rcases Nat.eq_zero_or_pos (lev now due) with h | h
  · omega
  · have := (lev_ge (now := now') h).2 (fun e => h2 h e.symm)
    omega
theorem div_pow_eq {a b l m : Nat} (h : a / 64 ^ l = b / 64 ^ l) (hlm : l ≤ m) : a / 64 ^ m = b / 64 ^ m := by
  obtain ⟨k, rfl⟩ := Nat.le.dest hlm
  rw [Nat.pow_add, ← Nat.div_div_eq_div_mul, ← Nat.div_div_eq_div_mul, h]
theorem stays_start {now due l s : Nat} (hs : s < 64) (h : l < lev now due ∨ lev now due = l ∧ slt l due ≠ s) : lev (startOf now l s) due = lev now due := by
  apply lev_stays
  · rcases h with h | h
    · exact div_pow_eq (startOf_div_succ hs) (by omega)
    · rw [h.1]; exact startOf_div_succ hs
  · intro hl
    rcases h with h | ⟨h, h'⟩
    · rw [div_pow_eq (startOf_div_succ hs) (by omega : l + 1 ≤ lev now due)]
      exact fun e => (lev_ge hl).1 (Nat.le_refl _) e.symm
    · rw [h, startOf_div, div_of (now := now) (l := l) (by omega)]; omega
theorem falls_start {now due l : Nat} (hl : 1 ≤ l) (h : lev now due = l) : lev (startOf now l (slt l due)) due < l := by
  rw [lev_lt hl, startOf_div, ← div_of (by omega)]
theorem stays_to {now to due l s : Nat} (hs : s < 64) (h1 : now ≤ to) (h2 : to < startOf now l s) (h : l < lev now due ∨ lev now due = l ∧ s ≤ slt l due) : lev to due = lev now due := by
  have h3 : to / 64 ^ (l + 1) = now / 64 ^ (l + 1) := by
    have a := Nat.div_le_div_right (c := 64 ^ (l + 1)) h1
    have b := Nat.div_le_div_right (c := 64 ^ (l + 1)) (Nat.le_of_lt h2)
    rw [startOf_div_succ hs] at b
    omega
  apply lev_stays
  · exact div_pow_eq h3 (by omega)
  · intro hl
    rcases h with h | ⟨h, h'⟩
    · rw [div_pow_eq h3 (by omega : l + 1 ≤ lev now due)]
      exact fun e => (lev_ge hl).1 (Nat.le_refl _) e.symm
    · rw [h, div_of (now := now) (due := due) (l := l) (by omega)]
      have : to / 64 ^ l < now / 64 ^ (l + 1) * 64 + s := by
        rw [startOf_eq] at h2
        exact (Nat.div_lt_iff_lt_mul (Nat.pow_pos (by omega))).2 h2
      omega
end FK

namespace FK
structure Pl where
  run : Nat
  node : Int
  what : Int
instance : BEq Pl := ⟨fun a b => (a.run : Int) == (b.run : Int) && (a.node == b.node && (a.what == b.what && true))⟩
theorem Pl.beq_iff (a b : Pl) : (a == b) = true ↔ a = b := by
  cases a; cases b
  show ((_ : Int) == _ && (_ == _ && (_ == _ && true))) = true ↔ _
  simp
  intro _ _
  omega
instance : LawfulBEq Pl where
  eq_of_beq := fun h => (Pl.beq_iff _ _).1 h
  rfl := (Pl.beq_iff _ _).2 rfl
instance : DecidableEq Pl := fun a b => if h : (a == b) = true then isTrue ((Pl.beq_iff _ _).1 h) else isFalse fun e => h ((Pl.beq_iff _ _).2 e)
end FK
