/- Plain laws on flows: order of nodes, numbers as bytes. -/
namespace FK
structure Node where
 budget : Int
 close : Int
 beat : Int
 base : Int
 cap : Int
 jitter : Int
 after : List Int
 deriving Inhabited
structure Flow where
 deadline : Int
 nodes : List Node
 deriving Inhabited
def cO (l : List Node) (i : Nat) : List Nat := match l[i]? with | some n => n.after.map Int.toNat | none => []
inductive Ac (l : List Node) : Nat → Prop where
 | mk (i : Nat) (h : ∀ k, k ∈ cO l i → Ac l k) : Ac l i
theorem l3 : ∀ t w, w.testBit t = true → (∀ j, j < t → w.testBit j = false) →
 ∀ j, (w &&& (w - 1)).testBit j = (w.testBit j && decide (j ≠ t)) := by
 intro t
 induction t with
 | zero =>
  intro w h1 _ j
  have ho : w % 2 = 1 := by simpa [Nat.testBit_zero] using h1
  rw [Nat.testBit_and]
  cases j with
  | zero => simp [Nat.testBit_zero]; omega
  | succ j =>
   rw [Nat.testBit_succ, Nat.testBit_succ, show (w - 1) / 2 = w / 2 by omega]; simp
 | succ t ih =>
  intro w h1 h2 j
  have he : w % 2 = 0 := by
   have := h2 0 (by omega)
   simp [Nat.testBit_zero] at this; omega
  have hp : 0 < w := by
   rcases Nat.eq_zero_or_pos w with h | h
   · subst h; simp at h1
   · exact h
  rw [Nat.testBit_succ] at h1
  have ih' := ih (w / 2) h1 (fun j hj => by have := h2 (j + 1) (by omega); rwa [Nat.testBit_succ] at this)
  rw [Nat.testBit_and]
  cases j with
  | zero => simp [Nat.testBit_zero]; omega
  | succ j =>
   have := ih' j
   rw [Nat.testBit_and] at this
   rw [Nat.testBit_succ, Nat.testBit_succ, show (w - 1) / 2 = w / 2 - 1 by omega, this]
   simp
def fj : List Nat → Nat
 | [] => 0
 | k :: l => (1 <<< k) ||| fj l
theorem jl (k j : Nat) : (1 <<< k).testBit j = decide (j = k) := by
 rw [Nat.one_shiftLeft, Nat.testBit_two_pow]; simp [eq_comm]
theorem lh (l : List Nat) (j : Nat) : (fj l).testBit j = decide (j ∈ l) := by
 induction l with
 | nil => simp [fj]
 | cons k l ih => rw [fj, Nat.testBit_or, ih, jl]; simp
theorem sD (a b : List Nat) : fj (a ++ b) = fj a ||| fj b := by
 induction a with
 | nil => simp [fj]
 | cons k a ih => simp [fj, ih, Nat.or_assoc]
theorem mO (a b : Nat) : a &&& b = 0 ↔ ∀ j, ¬ (a.testBit j = true ∧ b.testBit j = true) := by
 constructor
 · intro h j
   have := congrArg (fun x => x.testBit j) h
   simp [Nat.testBit_and] at this
   intro ⟨h1, h2⟩; simp [h1, h2] at this
 · intro h
   apply Nat.eq_of_testBit_eq
   intro j
   have := h j
   rw [Nat.testBit_and, Nat.zero_testBit]
   cases h1 : a.testBit j <;> cases h2 : b.testBit j <;> simp_all
theorem fX (l : List Nat) (left : Nat) : fj l &&& left = 0 ↔ ∀ k ∈ l, left.testBit k = false := by
 rw [mO]
 constructor
 · intro h k hk
   have := h k
   rw [lh] at this
   simp [hk] at this; exact this
 · intro h j ⟨h1, h2⟩
   rw [lh] at h1
   have := h j (by simpa using h1)
   rw [this] at h2; cases h2
structure Ordering (l : List Node) (left : Nat) (told : List Nat) : Prop where
 bits : ∀ i, left.testBit i = true ↔ i < l.length ∧ i ∉ told
 lt : ∀ i ∈ told, i < l.length
 nodup : told.Nodup
 behind : ∀ a i b, told = a ++ i :: b → ∀ k ∈ cO l i, k < l.length → k ∈ a
theorem Ordering.start (l : List Node) : Ordering l (2 ^ l.length - 1) [] where
 bits := by intro i; simp [Nat.testBit_two_pow_sub_one]
 lt := by simp
 nodup := by simp
 behind := by intro a i b h; simp at h
theorem Ordering.tell {l : List Node} {left : Nat} {told : List Nat} (h : Ordering l left told) {i : Nat} (hi : left.testBit i = true)
 (hn : ∀ k ∈ cO l i, left.testBit k = false) {left' : Nat} (hl : ∀ j, left'.testBit j = (left.testBit j && decide (j ≠ i))) : Ordering l left' (told ++ [i]) where
 bits := by
  intro j
  rw [hl j]
  have := h.bits j
  simp
  constructor
  · rintro ⟨h1, h2⟩; exact ⟨(this.1 h1).1, (this.1 h1).2, h2⟩
  · rintro ⟨h1, h2, h3⟩; exact ⟨this.2 ⟨h1, h2⟩, h3⟩
 lt := by
  intro j hj
  simp at hj
  rcases hj with hj | rfl
  · exact h.lt j hj
  · exact ((h.bits j).1 hi).1
 nodup := by
  rw [List.nodup_append]
  refine ⟨h.nodup, by simp, ?_⟩
  intro a ha b hb
  simp at hb; subst hb
  rintro rfl
  exact ((h.bits _).1 hi).2 ha
 behind := by
  intro a j b hab k hk hlt
  rcases List.eq_nil_or_concat b with rfl | ⟨b', x, rfl⟩
  · have := List.append_inj' hab (by simp)
    obtain ⟨h1, h2⟩ := this
    simp at h2; subst h2; subst h1
    have := hn k hk
    have hb := h.bits k
    rw [this] at hb
    simp [hlt] at hb
    exact hb
  · rw [List.concat_eq_append, ← List.cons_append, ← List.append_assoc] at hab
    have := (List.append_inj' hab (by simp)).1
    exact h.behind a j b' this k hk hlt
theorem Ordering.ac {l : List Node} {left : Nat} {told : List Nat} (h : Ordering l left told) (hv : ∀ i, ∀ k ∈ cO l i, k < l.length) : ∀ i ∈ told, Ac l i := by
 have key : ∀ n, ∀ a b, told = a ++ b → a.length = n → ∀ i ∈ a, Ac l i := by
  intro n
  induction n using Nat.strongRecOn with
  | _ n ih =>
   intro a b hab hlen i hi
   obtain ⟨a1, a2, rfl⟩ := List.append_of_mem hi
   refine .mk i fun k hk => ?_
   have := h.behind a1 i (a2 ++ b) (by rw [hab]; simp) k hk (hv i k hk)
   exact ih a1.length (by rw [← hlen]; simp) a1 (i :: a2 ++ b) (by rw [hab]; simp) rfl k this
 intro i hi
 exact key _ told [] (by simp) rfl i hi
theorem Ordering.stuck {l : List Node} {left : Nat} {told : List Nat} (h : Ordering l left told) (hv : ∀ i, ∀ k ∈ cO l i, k < l.length)
 (hs : ∀ i, left.testBit i = true → ∃ k ∈ cO l i, left.testBit k = true) (i : Nat) : left.testBit i = true ↔ i < l.length ∧ ¬ Ac l i := by
 have key : ∀ i, Ac l i → left.testBit i = false := by
  intro i hi
  induction hi with
  | mk i _ ih =>
   cases hb : left.testBit i with
   | false => rfl
   | true =>
    obtain ⟨k, hk, hb'⟩ := hs i hb
    rw [ih k hk] at hb'; cases hb'
 constructor
 · intro hb
   refine ⟨((h.bits i).1 hb).1, fun ha => ?_⟩
   rw [key i ha] at hb; cases hb
 · intro ⟨h1, h2⟩
   refine (h.bits i).2 ⟨h1, fun hm => h2 (h.ac hv i hm)⟩
structure Gone (l : List Node) (g : List Bool) : Prop where
 len : g.length = l.length
 sound : ∀ i, g[i]? = some true → Ac l i
def Whole (l : List Node) (g : List Bool) : Prop := ∀ i, i < l.length → Ac l i → g[i]? = some true
theorem Gone.start (l : List Node) : Gone l (List.replicate l.length false) where
 len := by simp
 sound := by intro i h; simp [List.getElem?_replicate] at h
def More (g g' : List Bool) : Prop := ∀ i : Nat, g[i]? = some true → g'[i]? = some true
theorem More.refl (g : List Bool) : More g g := fun _ h => h
theorem More.trans {a b c : List Bool} (h : More a b) (k : More b c) : More a c := fun i x => k i (h i x)
theorem ug : ∀ {g g' : List Bool}, g.length = g'.length → More g g' → g.count true ≤ g'.count true ∧ ((∃ i : Nat, g[i]? = some false ∧ g'[i]? = some true) → g.count true < g'.count true) := by
 intro g
 induction g with
 | nil => intro g' hl _; exact ⟨by simp, fun ⟨i, h, _⟩ => by simp at h⟩
 | cons b g ih =>
  intro g' hl hm
  cases g' with
  | nil => simp at hl
  | cons b' g' =>
   have hm' : More g g' := fun i h => by have := hm (i + 1) (by simpa using h); simpa using this
   obtain ⟨h1, h2⟩ := ih (by simpa using hl) hm'
   have h0 : b = true → b' = true := fun hb => by have := hm 0 (by simp [hb]); simpa using this
   have hc : ∀ x : Bool, (if x == true then 1 else 0) = (if x = true then 1 else 0) := by intro x; cases x <;> rfl
   simp only [List.count_cons]
   refine ⟨by cases b <;> cases b' <;> simp at h0 ⊢ <;> omega, ?_⟩
   rintro ⟨i, hi, hi'⟩
   cases i with
   | zero => simp at hi hi'; subst hi hi'; simp; omega
   | succ i =>
    simp at hi hi'
    have := h2 ⟨i, hi, hi'⟩
    cases b <;> cases b' <;> simp_all <;> omega
structure Sweep (l : List Node) (g g' : List Bool) (i : Nat) : Prop where
 gone : Gone l g'
 more : More g g'
 asked : ∀ j, j < i → (∀ k ∈ cO l j, g[k]? = some true) → g'[j]? = some true
theorem Sweep.start {l : List Node} {g : List Bool} (h : Gone l g) : Sweep l g g 0 := ⟨h, .refl g, fun _ h => by omega⟩
theorem Sweep.next {l : List Node} {g g' : List Bool} {i : Nat} (h : Sweep l g g' i) (hi : i < l.length) {b : Bool}
 (hb : b = true ↔ ∀ k ∈ cO l i, g'[k]? = some true) (hv : ∀ k ∈ cO l i, k < l.length) {v : Bool} (hv' : v = (g'.getD i false || b)) : Sweep l g (g'.set i v) (i + 1) := by
 have hlen := h.gone.len
 have hmore : More g' (g'.set i v) := by
  intro j hj
  rw [List.getElem?_set]
  split
  · rename_i he; subst he
    rw [if_pos (by omega), hv', List.getD, hj]; simp
  · exact hj
 refine ⟨⟨by simp [hlen], ?_⟩, h.more.trans hmore, ?_⟩
 · intro j hj
   rw [List.getElem?_set] at hj
   split at hj
   · rename_i he; subst he
     rw [if_pos (by omega)] at hj
     simp [hv'] at hj
     rcases hj with hj | hj
     · exact h.gone.sound i (by
        rcases hx : g'[i]? with _ | x
        · simp [hx] at hj
        · simp [hx] at hj; rw [hj])
     · exact .mk i fun k hk => h.gone.sound k (hb.1 hj k hk)
   · exact h.gone.sound j hj
 · intro j hj hall
   rcases Nat.lt_or_ge j i with hlt | hge
   · exact hmore j (h.asked j hlt hall)
   · obtain rfl : j = i := by omega
     have : b = true := hb.2 fun k hk => h.more k (hall k hk)
     rw [List.getElem?_set, if_pos rfl, if_pos (by omega), hv', this]; simp
def Far (l : List Node) (g : List Bool) (r : Nat) : Prop := Whole l g ∨ r ≤ g.count true
theorem sV {l : List Node} (hv : ∀ i, ∀ k ∈ cO l i, k < l.length) {g : List Bool} (hl : g.length = l.length) : Whole l g ∨ ∃ i, i < l.length ∧ g[i]? = some false ∧ ∀ k ∈ cO l i, g[k]? = some true := by
 by_cases hw : Whole l g
 · exact .inl hw
 · right
   have key : ∀ i, Ac l i → i < l.length → g[i]? = some true ∨ ∃ i, i < l.length ∧ g[i]? = some false ∧ ∀ k ∈ cO l i, g[k]? = some true := by
    intro i hi
    induction hi with
    | mk i _ ih =>
     intro hlt
     by_cases hall : ∀ k ∈ cO l i, g[k]? = some true
     · rcases hx : g[i]? with _ | x
       · rw [List.getElem?_eq_none_iff] at hx; omega
       · cases x with
         | true => exact .inl rfl
         | false => exact .inr ⟨i, hlt, hx, hall⟩
     · have ⟨k, hk⟩ : ∃ k, k ∈ cO l i ∧ ¬ g[k]? = some true := by
        apply Classical.byContradiction
        intro hn
        exact hall fun k hk => Classical.byContradiction fun hne => hn ⟨k, hk, hne⟩
       rcases ih k hk.1 (hv i k hk.1) with h | h
       · exact absurd h hk.2
       · exact .inr h
   apply Classical.byContradiction
   intro hn
   exact hw fun i hlt ha => (key i ha hlt).resolve_right hn
theorem Far.next {l : List Node} (hv : ∀ i, ∀ k ∈ cO l i, k < l.length) {g g' : List Bool} {r : Nat} (hg : Gone l g) (h : Far l g r) (s : Sweep l g g' l.length) : Far l g' (r + 1) := by
 rcases h with h | h
 · exact .inl fun i hi ha => s.more i (h i hi ha)
 · rcases sV hv hg.len with hw | ⟨i, hi, hf, hall⟩
   · exact .inl fun i hi ha => s.more i (hw i hi ha)
   · have := (ug (by rw [hg.len, s.gone.len]) s.more).2 ⟨i, hf, s.asked i hi hall⟩
     exact .inr (by omega)
end FK

namespace FK
def span (n low : Int) : Prop := low ≤ n ∧ n ≤ 1048576
instance (n low : Int) : Decidable (span n low) := inferInstanceAs (Decidable (_ ∧ _))
def cf (n : Node) : Prop := 1 ≤ n.budget ∧ n.budget ≤ 5 ∧ span n.close 1 ∧ span n.beat 0 ∧ span n.base 1 ∧ span n.cap n.base ∧ span n.jitter 0
def EdgesOk (len : Nat) : Int → List Int → Prop
 | _, [] => True
 | p, k :: r => p < k ∧ k < len ∧ EdgesOk len k r
def gt (f : Flow) : Prop := span f.deadline 1 ∧ 1 ≤ f.nodes.length ∧ f.nodes.length ≤ 12
def OkTo (f : Flow) (i : Nat) : Prop := ∀ j n, j < i → f.nodes[j]? = some n → cf n ∧ EdgesOk f.nodes.length (-1) n.after
inductive Checked (f : Flow) : Int → Int → Prop where
 | head (h : ¬ gt f) : Checked f 2 (-1)
 | bound (i : Nat) (n : Node) (h : gt f) (ho : OkTo f i) (hn : f.nodes[i]? = some n) (hb : ¬ cf n) : Checked f 2 i
 | edge (i : Nat) (n : Node) (h : gt f) (ho : OkTo f i) (hn : f.nodes[i]? = some n) (hb : cf n) (he : ¬ EdgesOk f.nodes.length (-1) n.after) : Checked f 3 i
 | cycle (i : Nat) (h : gt f) (ho : OkTo f f.nodes.length) (hi : i < f.nodes.length) (hn : ¬ Ac f.nodes i) (hl : ∀ j, j < i → Ac f.nodes j) : Checked f 4 i
 | ok (h : gt f) (ho : OkTo f f.nodes.length) (ha : ∀ i, i < f.nodes.length → Ac f.nodes i) : Checked f 0 (-1)
theorem bx {α : Type} {l : List α} {i : Nat} {x : α} (h : l[i]? = some x) : i < l.length := (List.getElem?_eq_some_iff.1 h).1
theorem ik {f : Flow} {i j : Nat} {n m : Node} (hi : OkTo f i) (hj : OkTo f j) (hn : f.nodes[i]? = some n) (hm : f.nodes[j]? = some m)
 (bi : ¬ (cf n ∧ EdgesOk f.nodes.length (-1) n.after)) (bj : ¬ (cf m ∧ EdgesOk f.nodes.length (-1) m.after)) : i = j := by
 rcases Nat.lt_trichotomy i j with h | h | h
 · exact absurd (hj i n h hn) bi
 · exact h
 · exact absurd (hi j m h hm) bj
theorem Checked.unique {f : Flow} {e a e' a' : Int} (h : Checked f e a) (h' : Checked f e' a') : e = e' ∧ a = a' := by
 cases h with
 | head h => cases h' <;> first | exact ⟨rfl, rfl⟩ | contradiction
 | bound i n h ho hn hb =>
  have b1 : ¬ (cf n ∧ EdgesOk f.nodes.length (-1) n.after) := fun x => hb x.1
  cases h' with
  | head h' => contradiction
  | bound j m _ ho' hm hb' => obtain rfl := ik ho ho' hn hm b1 (fun x => hb' x.1); exact ⟨rfl, rfl⟩
  | edge j m _ ho' hm hb' he =>
   obtain rfl := ik ho ho' hn hm b1 (fun x => he x.2)
   rw [hn] at hm; cases hm; contradiction
  | cycle j _ ho' => exact absurd (ho' i n (bx hn) hn) b1
  | ok _ ho' => exact absurd (ho' i n (bx hn) hn) b1
 | edge i n h ho hn hb he =>
  have b1 : ¬ (cf n ∧ EdgesOk f.nodes.length (-1) n.after) := fun x => he x.2
  cases h' with
  | head h' => contradiction
  | bound j m _ ho' hm hb' =>
   obtain rfl := ik ho ho' hn hm b1 (fun x => hb' x.1)
   rw [hn] at hm; cases hm; contradiction
  | edge j m _ ho' hm hb' he' => obtain rfl := ik ho ho' hn hm b1 (fun x => he' x.2); exact ⟨rfl, rfl⟩
  | cycle j _ ho' => exact absurd (ho' i n (bx hn) hn) b1
  | ok _ ho' => exact absurd (ho' i n (bx hn) hn) b1
 | cycle i h ho hi hn hl =>
  cases h' with
  | head h' => contradiction
  | bound j m _ ho' hm hb' => exact absurd (ho j m (bx hm) hm).1 hb'
  | edge j m _ ho' hm hb' he => exact absurd (ho j m (bx hm) hm).2 he
  | cycle j _ _ hj hn' hl' =>
   rcases Nat.lt_trichotomy i j with h | h | h
   · exact absurd (hl' i h) hn
   · subst h; exact ⟨rfl, rfl⟩
   · exact absurd (hl j h) hn'
  | ok _ _ ha => exact absurd (ha i hi) hn
 | ok h ho ha =>
  cases h' with
  | head h' => contradiction
  | bound j m _ ho' hm hb' => exact absurd (ho j m (bx hm) hm).1 hb'
  | edge j m _ ho' hm hb' he => exact absurd (ho j m (bx hm) hm).2 he
  | cycle j _ _ hj hn' _ => exact absurd (ha j hj) hn'
  | ok => exact ⟨rfl, rfl⟩
open Classical in
noncomputable def chk (f : Flow) : Int × Int := if h : ∃ p : Int × Int, Checked f p.1 p.2 then choose h else (0, 0)
theorem Checked.chk {f : Flow} {e a : Int} (h : Checked f e a) : chk f = (e, a) := by
 have hx : ∃ p : Int × Int, Checked f p.1 p.2 := ⟨(e, a), h⟩
 unfold FK.chk
 rw [dif_pos hx]
 have hc := Classical.choose_spec hx
 have ⟨h1, h2⟩ := hc.unique h
 exact Prod.ext h1 h2
theorem tu {l : List Node} {i : Nat} {n : Node} (h : l[i]? = some n) : cO l i = n.after.map Int.toNat := by simp [cO, h]
theorem EdgesOk.bounds {len : Nat} : ∀ {p : Int} {l : List Int}, EdgesOk len p l → ∀ k ∈ l, p < k ∧ k < len := by
 intro p l
 induction l generalizing p with
 | nil => intro _ k hk; simp at hk
 | cons a l ih =>
  intro ⟨h1, h2, h3⟩ k hk
  simp at hk
  rcases hk with rfl | hk
  · exact ⟨h1, h2⟩
  · have := ih h3 k hk; omega
theorem OkTo.aft_lt {f : Flow} (h : OkTo f f.nodes.length) (i : Nat) : ∀ k ∈ cO f.nodes i, k < f.nodes.length := by
 intro k hk
 unfold cO at hk
 split at hk
 · rename_i n hn
   simp at hk
   obtain ⟨x, hx, rfl⟩ := hk
   have := (h i n (bx hn) hn).2.bounds x hx
   omega
 · simp at hk
theorem EdgesOk.length_le {len : Nat} : ∀ {p : Int} {l : List Int}, EdgesOk len p l → -1 ≤ p → l.length + (p + 1).toNat ≤ len ∨ l = [] := by
 intro p l
 induction l generalizing p with
 | nil => intro _ _; exact .inr rfl
 | cons a l ih =>
  intro ⟨h1, h2, h3⟩ hp
  left
  rcases ih h3 (by omega) with h | h
  · simp; omega
  · subst h; simp; omega
theorem Bs {p : Nat → Prop} {n : Nat} (h : p n) : ∃ m, m ≤ n ∧ p m ∧ ∀ j, j < m → ¬ p j := by
 induction n using Nat.strongRecOn with
 | _ n ih =>
  by_cases hx : ∃ j, j < n ∧ p j
  · obtain ⟨j, hj, hp⟩ := hx
    obtain ⟨m, h1, h2, h3⟩ := ih j hj hp
    exact ⟨m, by omega, h2, h3⟩
  · exact ⟨n, Nat.le_refl _, h, fun j hj hp => hx ⟨j, hj, hp⟩⟩
theorem oN (f : Flow) : ∃ e a, Checked f e a := by
 by_cases hh : gt f
 · by_cases ho : OkTo f f.nodes.length
   · by_cases ha : ∃ i, i < f.nodes.length ∧ ¬ Ac f.nodes i
     · obtain ⟨i, hi⟩ := ha
       obtain ⟨m, h1, h2, h3⟩ := Bs (p := fun i => i < f.nodes.length ∧ ¬ Ac f.nodes i) hi
       exact ⟨_, _, .cycle m hh ho h2.1 h2.2 fun j hj => Classical.byContradiction fun hn => h3 j hj ⟨by omega, hn⟩⟩
     · exact ⟨_, _, .ok hh ho fun i hi => Classical.byContradiction fun hn => ha ⟨i, hi, hn⟩⟩
   · have hx : ∃ i : Nat, ∃ n, f.nodes[i]? = some n ∧ ¬ (cf n ∧ EdgesOk f.nodes.length (-1) n.after) := by
      apply Classical.byContradiction
      intro hn
      exact ho fun j n _ hj => Classical.byContradiction fun hb => hn ⟨j, n, hj, hb⟩
     obtain ⟨i, hi⟩ := hx
     obtain ⟨m, _, ⟨n, h1, h2⟩, h3⟩ := Bs (p := fun i : Nat => ∃ n, f.nodes[i]? = some n ∧ ¬ (cf n ∧ EdgesOk f.nodes.length (-1) n.after)) hi
     have hok : OkTo f m := fun j x hj hx => Classical.byContradiction fun hb => h3 j hj ⟨x, hx, hb⟩
     by_cases hb : cf n
     · exact ⟨_, _, .edge m n hh hok h1 hb fun he => h2 ⟨hb, he⟩⟩
     · exact ⟨_, _, .bound m n hh hok h1 hb⟩
 · exact ⟨_, _, .head hh⟩
theorem s4 (f : Flow) : Checked f (chk f).1 (chk f).2 := by
 obtain ⟨e, a, h⟩ := oN f
 rw [h.chk]; exact h
structure Fit (f : Flow) : Prop where
 head : gt f
 nodes : OkTo f f.nodes.length
 ac : ∀ i, i < f.nodes.length → Ac f.nodes i
theorem zR {f : Flow} (h : (chk f).1 = 0) : Fit f := by
 have hc := s4 f
 rw [h] at hc
 generalize (chk f).2 = a at hc
 generalize he : (0 : Int) = e at hc
 cases hc with
 | ok h ho ha => exact ⟨h, ho, ha⟩
 | _ => omega
theorem Fit.chk {f : Flow} (h : Fit f) : chk f = (0, -1) := (Checked.ok h.head h.nodes h.ac).chk
def bz (n : Nat) : List UInt8 := if n < 128 then [UInt8.ofNat n] else UInt8.ofNat (n % 128 + 128) :: bz (n / 128)
termination_by n
def cU (n : Node) : List UInt8 :=
 bz n.budget.toNat ++ bz n.close.toNat ++ bz n.beat.toNat ++ bz n.base.toNat ++ bz n.cap.toNat ++ bz n.jitter.toNat ++ bz n.after.length ++ n.after.flatMap fun k => bz k.toNat
def bL (f : Flow) : List UInt8 := bz f.deadline.toNat ++ bz f.nodes.length ++ f.nodes.flatMap cU
def rd (b : List UInt8) (p : Nat) : Except Nat (Nat × Nat) :=
 match b[p]? with
 | none => .error p
 | some c => if c.toNat < 128 then .ok (c.toNat, p + 1) else
  match b[p + 1]? with
  | none => .error p
  | some d => if d.toNat < 128 then (if d.toNat = 0 then .error p else .ok (c.toNat % 128 + d.toNat * 128, p + 2)) else
   match b[p + 2]? with
   | none => .error p
   | some e => if e.toNat < 128 then (if e.toNat = 0 then .error p else .ok (c.toNat % 128 + d.toNat % 128 * 128 + e.toNat * 16384, p + 3)) else .error p
abbrev Rd (α : Type) := Nat → Except Nat (α × Nat)
def kF {α : Type} (r : Rd α) : Nat → List α → Rd (List α)
 | 0, l, p => .ok (l, p)
 | n + 1, l, p => match r p with
  | .error e => .error e
  | .ok (x, p') => kF r n (l ++ [x]) p'
def ec (b : List UInt8) : Rd Int := fun p => match rd b p with
 | .error e => .error e
 | .ok (n, p') => .ok ((n : Int), p')
def dB {α : Type} (b : List UInt8) (r : Rd α) : Rd (List α) := fun p => match rd b p with
 | .error e => .error e
 | .ok (n, p') => kF r n [] p'
def andThen {α β : Type} (r : Except Nat (α × Nat)) (k : α → Rd β) : Except Nat (β × Nat) := match r with
 | .error e => .error e
 | .ok (x, p) => k x p
def fw (b : List UInt8) : Rd Node := fun p =>
 andThen (ec b p) fun budget p => andThen (ec b p) fun close p => andThen (ec b p) fun beat p => andThen (ec b p) fun base p =>
 andThen (ec b p) fun cap p => andThen (ec b p) fun jitter p => andThen (dB b (ec b) p) fun after p => .ok (⟨budget, close, beat, base, cap, jitter, after⟩, p)
def ir (b : List UInt8) : Rd Flow := fun p =>
 andThen (ec b p) fun deadline p => andThen (dB b (fw b) p) fun nodes p => .ok (⟨deadline, nodes⟩, p)
noncomputable def oO (b : List UInt8) : Except (Int × Int) Flow := match ir b 0 with
 | .error e => .error (1, (e : Int))
 | .ok (f, p) => if p < b.length then .error (1, (p : Int)) else if (chk f).1 = 0 then .ok f else .error (chk f)
end FK

namespace FK
def At (b : List UInt8) (p : Nat) (l : List UInt8) : Prop := ∀ i, i < l.length → b[p + i]? = l[i]?
theorem At.append {b : List UInt8} {p : Nat} {l m : List UInt8} (h : At b p (l ++ m)) : At b p l ∧ At b (p + l.length) m := by
 constructor
 · intro i hi
   rw [h i (by simp; omega), List.getElem?_append_left hi]
 · intro i hi
   have := h (l.length + i) (by simp; omega)
   rw [Nat.add_assoc, this, List.getElem?_append_right (by omega)]
   congr 1; omega
theorem zZ (b : List UInt8) : At b 0 b := by intro i _; simp
theorem gy {n : Nat} (h : n < 128) : bz n = [UInt8.ofNat n] := by rw [bz, if_pos h]
theorem iY {n : Nat} (h : ¬ n < 128) : bz n = UInt8.ofNat (n % 128 + 128) :: bz (n / 128) := by rw [bz, if_neg h]
theorem ci {n : Nat} (h : n < 2097152) : (bz n).length ≤ 3 := by
 by_cases h1 : n < 128
 · rw [gy h1]; simp
 · rw [iY h1]
   by_cases h2 : n / 128 < 128
   · rw [gy h2]; simp
   · rw [iY h2, gy (by omega)]; simp
theorem vg {b : List UInt8} {p n : Nat} (hn : n < 2097152) (h : At b p (bz n)) : rd b p = .ok (n, p + (bz n).length) := by
 by_cases h1 : n < 128
 · rw [gy h1] at h ⊢
   have h0 := h 0 (by simp)
   simp at h0
   unfold rd
   rw [h0]
   have : (UInt8.ofNat n).toNat = n := by simp; omega
   simp only [this]
   rw [if_pos h1]; simp
 · rw [iY h1] at h ⊢
   by_cases h2 : n / 128 < 128
   · rw [gy h2] at h ⊢
     have h0 := h 0 (by simp)
     have h1' := h 1 (by simp)
     simp only [Nat.add_zero, List.getElem?_cons_zero, List.getElem?_cons_succ] at h0 h1'
     have e0 : (UInt8.ofNat (n % 128 + 128)).toNat = n % 128 + 128 := by simp; omega
     have e1 : (UInt8.ofNat (n / 128)).toNat = n / 128 := by simp; omega
     unfold rd
     rw [h0]
     simp only [e0]
     rw [if_neg (by omega), h1']
     simp only [e1]
     rw [if_pos h2, if_neg (by omega)]
     simp; omega
   · rw [iY h2, gy (n := n / 128 / 128) (by omega)] at h ⊢
     have h0 := h 0 (by simp)
     have h1' := h 1 (by simp)
     have h2' := h 2 (by simp)
     simp only [Nat.add_zero, List.getElem?_cons_zero, List.getElem?_cons_succ] at h0 h1' h2'
     have e0 : (UInt8.ofNat (n % 128 + 128)).toNat = n % 128 + 128 := by simp; omega
     have e1 : (UInt8.ofNat (n / 128 % 128 + 128)).toNat = n / 128 % 128 + 128 := by simp; omega
     have e2 : (UInt8.ofNat (n / 128 / 128)).toNat = n / 128 / 128 := by simp; omega
     unfold rd
     rw [h0]
     simp only [e0]
     rw [if_neg (by omega), h1']
     simp only [e1]
     rw [if_neg (by omega), h2']
     simp only [e2]
     rw [if_pos (by omega), if_neg (by omega)]
     simp; omega
theorem ek {b : List UInt8} {p : Nat} {n : Int} (h0 : 0 ≤ n) (hn : n < 2097152) (h : At b p (bz n.toNat)) : ec b p = .ok (n, p + (bz n.toNat).length) := by
 unfold ec
 rw [vg (by omega) h]
 simp; omega
theorem vu {α : Type} {b : List UInt8} (r : Rd α) (enc : α → List UInt8) : ∀ (xs l : List α) (p : Nat), (∀ x ∈ xs, ∀ p, At b p (enc x) → r p = .ok (x, p + (enc x).length)) →
 At b p (xs.flatMap enc) → kF r xs.length l p = .ok (l ++ xs, p + (xs.flatMap enc).length)
 | [], l, p, _, _ => by simp [kF]
 | x :: xs, l, p, hr, h => by
  rw [List.flatMap_cons] at h
  have ⟨h1, h2⟩ := h.append
  simp only [List.length_cons, kF]
  rw [hr x (by simp) p h1]
  simp only
  rw [vu r enc xs (l ++ [x]) _ (fun y hy => hr y (by simp [hy])) h2]
  simp; omega
theorem pm {α : Type} {b : List UInt8} (r : Rd α) (enc : α → List UInt8) (xs : List α) (p : Nat) (hl : xs.length < 2097152) (hr : ∀ x ∈ xs, ∀ p, At b p (enc x) → r p = .ok (x, p + (enc x).length))
 (h : At b p (bz xs.length ++ xs.flatMap enc)) : dB b r p = .ok (xs, p + (bz xs.length ++ xs.flatMap enc).length) := by
 have ⟨h1, h2⟩ := h.append
 unfold dB
 rw [vg hl h1]
 simp only
 rw [vu r enc xs [] _ hr h2]
 simp; omega
theorem wD {b : List UInt8} {p : Nat} {n : Node} {len : Nat} (hlen : len ≤ 12) (hn : cf n) (he : EdgesOk len (-1) n.after) (h : At b p (cU n)) : fw b p = .ok (n, p + (cU n).length) := by
 obtain ⟨a1, a2, ⟨b1, b2⟩, ⟨c1, c2⟩, ⟨d1, d2⟩, ⟨e1, e2⟩, f1, f2⟩ := hn
 have hlen' : (cU n).length = (bz n.budget.toNat).length + ((bz n.close.toNat).length + ((bz n.beat.toNat).length + ((bz n.base.toNat).length + ((bz n.cap.toNat).length + ((bz n.jitter.toNat).length + (bz n.after.length ++ n.after.flatMap fun k => bz k.toNat).length))))) := by
  simp [cU]
 have h' : At b p (bz n.budget.toNat ++ (bz n.close.toNat ++ (bz n.beat.toNat ++ (bz n.base.toNat ++ (bz n.cap.toNat ++ (bz n.jitter.toNat ++ (bz n.after.length ++ n.after.flatMap fun k => bz k.toNat))))))) := by
  simpa [cU] using h
 have ⟨g1, r1⟩ := h'.append
 have ⟨g2, r2⟩ := r1.append
 have ⟨g3, r3⟩ := r2.append
 have ⟨g4, r4⟩ := r3.append
 have ⟨g5, r5⟩ := r4.append
 have ⟨g6, r6⟩ := r5.append
 unfold fw
 rw [ek (by omega) (by omega) g1]; simp only [andThen]
 rw [ek (by omega) (by omega) g2]; simp only
 rw [ek (by omega) (by omega) g3]; simp only
 rw [ek (by omega) (by omega) g4]; simp only
 rw [ek (by omega) (by omega) g5]; simp only
 rw [ek (by omega) (by omega) g6]; simp only
 have hb := he.bounds
 have hal : n.after.length < 2097152 := by
  rcases he.length_le (by omega) with h | h
  · omega
  · rw [h]; simp
 rw [pm (ec b) (fun k => bz k.toNat) n.after _ hal (fun x hx q hq => ek (by have := hb x hx; omega) (by have := hb x hx; omega) hq) r6]
 simp only
 rw [hlen']
 congr 2
 omega
theorem wF {b : List UInt8} {p : Nat} {f : Flow} (hh : gt f) (ho : OkTo f f.nodes.length) (h : At b p (bL f)) : ir b p = .ok (f, p + (bL f).length) := by
 obtain ⟨⟨a1, a2⟩, a3, a4⟩ := hh
 have h' : At b p (bz f.deadline.toNat ++ (bz f.nodes.length ++ f.nodes.flatMap cU)) := by simpa [bL] using h
 have ⟨g1, r1⟩ := h'.append
 unfold ir
 rw [ek (by omega) (by omega) g1]; simp only [andThen]
 rw [pm (fw b) cU f.nodes _ (by omega) (fun x hx q hq => by
  obtain ⟨i, hi, hx⟩ := List.mem_iff_getElem.1 hx
  have := ho i x hi (by rw [List.getElem?_eq_getElem hi, hx])
  exact wD a4 this.1 this.2 hq) r1]
 simp only
 have : (bL f).length = (bz f.deadline.toNat).length + (bz f.nodes.length ++ f.nodes.flatMap cU).length := by simp [bL]
 rw [this]
 congr 2
 omega
theorem mY {f : Flow} (h : Fit f) : oO (bL f) = .ok f := by
 unfold oO
 rw [wF h.head h.nodes (zZ _)]
 simp [h.chk]
end FK

namespace FK
structure Tm (K : Type) where
 key : K
 due : Nat
 seq : Nat
def gi (now due : Nat) : Nat := Nat.log2 (due ^^^ now) / 6
def td (l due : Nat) : Nat := due / 64 ^ l % 64
theorem m5 (l : Nat) : 64 ^ l = 2 ^ (6 * l) := by rw [Nat.pow_mul]
theorem Ag (a b k : Nat) : (a ^^^ b) / 2 ^ k = (a / 2 ^ k) ^^^ (b / 2 ^ k) := by
 rw [← Nat.shiftRight_eq_div_pow, ← Nat.shiftRight_eq_div_pow, ← Nat.shiftRight_eq_div_pow, Nat.shiftRight_xor_distrib]
theorem qy (a b : Nat) : a ^^^ b = 0 ↔ a = b := by
 constructor
 · intro h
   apply Nat.eq_of_testBit_eq
   intro i
   have := congrArg (fun x => x.testBit i) h
   simp [Nat.testBit_xor] at this
   exact this
 · rintro rfl; exact Nat.xor_self a
theorem pZ {now due l : Nat} (hl : 1 ≤ l) : gi now due < l ↔ due / 64 ^ l = now / 64 ^ l := by
 rw [m5, ← qy, ← Ag]
 unfold gi
 rw [Nat.div_lt_iff_lt_mul (by omega), Nat.div_eq_zero_iff]
 have hp : 0 < 2 ^ (6 * l) := Nat.two_pow_pos _
 by_cases h0 : due ^^^ now = 0
 · rw [h0]; simp; omega
 · rw [Nat.log2_lt h0, Nat.mul_comm l 6]; omega
theorem lev_le {now due l : Nat} : gi now due ≤ l ↔ due / 64 ^ (l + 1) = now / 64 ^ (l + 1) := by
 rw [← pZ (by omega)]; omega
theorem na {now due l : Nat} (hl : 1 ≤ l) : l ≤ gi now due ↔ due / 64 ^ l ≠ now / 64 ^ l := by
 have := pZ (now := now) (due := due) hl; omega
theorem ui {now due : Nat} (h1 : now ≤ 2 ^ 62) (h2 : due ≤ 2 ^ 62) : gi now due ≤ 10 := by
 rw [lev_le]
 have e : (64 : Nat) ^ (10 + 1) = 2 ^ 66 := by decide
 rw [e, Nat.div_eq_of_lt (by omega), Nat.div_eq_of_lt (by omega)]
theorem rT (a l : Nat) : a / 64 ^ (l + 1) = a / 64 ^ l / 64 := by rw [Nat.div_div_eq_div_mul, Nat.pow_succ]
theorem yk (l due : Nat) : td l due < 64 := Nat.mod_lt _ (by omega)
theorem jt {now due l : Nat} (h : gi now due ≤ l) : due / 64 ^ l = now / 64 ^ (l + 1) * 64 + td l due := by
 have h1 := lev_le.1 h
 rw [rT] at h1
 unfold td
 have := Nat.div_add_mod (due / 64 ^ l) 64
 omega
theorem kB {a b k : Nat} (h : a / k < b / k) : a < b := by
 rcases Nat.lt_or_ge a b with h' | h'
 · exact h'
 · have := Nat.div_le_div_right (c := k) h'; omega
theorem wQ {now a b : Nat} (hb : now ≤ b) (h : gi now a < gi now b) : a < b := by
 have h1 : 1 ≤ gi now b := by omega
 have h2 := (na h1).1 (Nat.le_refl _)
 have h3 := (pZ h1).1 h
 have h4 := Nat.div_le_div_right (c := 64 ^ gi now b) hb
 exact kB (k := 64 ^ gi now b) (by omega)
theorem uh {now a b l : Nat} (ha : gi now a ≤ l) (hb : gi now b ≤ l) (h : td l a < td l b) : a < b := by
 have h1 := jt ha
 have h2 := jt hb
 exact kB (k := 64 ^ l) (by omega)
def bp (now l s : Nat) : Nat := now / 64 ^ (l + 1) * 64 ^ (l + 1) + s * 64 ^ l
theorem i1 (now l s : Nat) : bp now l s = (now / 64 ^ (l + 1) * 64 + s) * 64 ^ l := by
 unfold bp
 rw [Nat.pow_succ, Nat.add_mul, Nat.mul_assoc, Nat.mul_comm 64]
theorem ig {now l s : Nat} : bp now l s / 64 ^ l = now / 64 ^ (l + 1) * 64 + s := by
 rw [i1, Nat.mul_div_cancel _ (Nat.pow_pos (by omega))]
theorem eH {now l s : Nat} (hs : s < 64) : bp now l s / 64 ^ (l + 1) = now / 64 ^ (l + 1) := by
 rw [rT, ig]; omega
theorem rq {now due l : Nat} (h : gi now due ≤ l) : bp now l (td l due) ≤ due := by
 rw [i1, ← jt h]
 exact Nat.div_mul_le_self _ _
theorem tN {now due : Nat} (h : gi now due = 0) : bp now 0 (td 0 due) = due := by
 rw [i1, ← jt (by omega)]; simp
theorem qI {now due l : Nat} (hl : 1 ≤ l) (h : gi now due = l) (hn : now ≤ due) : now < bp now l (td l due) := by
 apply kB (k := 64 ^ l)
 rw [ig, ← jt (by omega)]
 have h1 := (na hl).1 (Nat.le_of_eq h.symm)
 have := Nat.div_le_div_right (c := 64 ^ l) hn
 omega
theorem pw {now now' due : Nat} (h1 : now' / 64 ^ (gi now due + 1) = now / 64 ^ (gi now due + 1)) (h2 : 1 ≤ gi now due → now' / 64 ^ gi now due ≠ due / 64 ^ gi now due) : gi now' due = gi now due := by
 have h3 : gi now' due ≤ gi now due := by rw [lev_le, h1, ← lev_le]; exact Nat.le_refl _
 rcases Nat.eq_zero_or_pos (gi now due) with h | h
 · omega
 · have := (na (now := now') h).2 (fun e => h2 h e.symm)
   omega
theorem jb {a b l m : Nat} (h : a / 64 ^ l = b / 64 ^ l) (hlm : l ≤ m) : a / 64 ^ m = b / 64 ^ m := by
 obtain ⟨k, rfl⟩ := Nat.le.dest hlm
 rw [Nat.pow_add, ← Nat.div_div_eq_div_mul, ← Nat.div_div_eq_div_mul, h]
theorem mh {now due l s : Nat} (hs : s < 64) (h : l < gi now due ∨ gi now due = l ∧ td l due ≠ s) : gi (bp now l s) due = gi now due := by
 apply pw
 · rcases h with h | h
   · exact jb (eH hs) (by omega)
   · rw [h.1]; exact eH hs
 · intro hl
   rcases h with h | ⟨h, h'⟩
   · rw [jb (eH hs) (by omega : l + 1 ≤ gi now due)]
     exact fun e => (na hl).1 (Nat.le_refl _) e.symm
   · rw [h, ig, jt (now := now) (l := l) (by omega)]; omega
theorem sT {now due l : Nat} (hl : 1 ≤ l) (h : gi now due = l) : gi (bp now l (td l due)) due < l := by
 rw [pZ hl, ig, ← jt (by omega)]
theorem yR {now to due l s : Nat} (hs : s < 64) (h1 : now ≤ to) (h2 : to < bp now l s) (h : l < gi now due ∨ gi now due = l ∧ s ≤ td l due) : gi to due = gi now due := by
 have h3 : to / 64 ^ (l + 1) = now / 64 ^ (l + 1) := by
  have a := Nat.div_le_div_right (c := 64 ^ (l + 1)) h1
  have b := Nat.div_le_div_right (c := 64 ^ (l + 1)) (Nat.le_of_lt h2)
  rw [eH hs] at b
  omega
 apply pw
 · exact jb h3 (by omega)
 · intro hl
   rcases h with h | ⟨h, h'⟩
   · rw [jb h3 (by omega : l + 1 ≤ gi now due)]
     exact fun e => (na hl).1 (Nat.le_refl _) e.symm
   · rw [h, jt (now := now) (due := due) (l := l) (by omega)]
     have : to / 64 ^ l < now / 64 ^ (l + 1) * 64 + s := by
      rw [i1] at h2
      exact (Nat.div_lt_iff_lt_mul (Nat.pow_pos (by omega))).2 h2
     omega
end FK

namespace FK
structure Pl where
 run : Nat
 node : Int
 what : Int
instance : BEq Pl := ⟨fun a b => (a.run : Int) == (b.run : Int) && (a.node == b.node && (a.what == b.what && true))⟩
theorem Pl.beq_iff (a b : Pl) : (a == b) = true ↔ a = b := by
 cases a; cases b
 show ((_ : Int) == _ && (_ == _ && (_ == _ && true))) = true ↔ _
 simp
 intro _ _
 omega
instance : LawfulBEq Pl where
 eq_of_beq := fun h => (Pl.beq_iff _ _).1 h
 rfl := (Pl.beq_iff _ _).2 rfl
instance : DecidableEq Pl := fun a b => if h : (a == b) = true then isTrue ((Pl.beq_iff _ _).1 h) else isFalse fun e => h ((Pl.beq_iff _ _).2 e)
end FK
