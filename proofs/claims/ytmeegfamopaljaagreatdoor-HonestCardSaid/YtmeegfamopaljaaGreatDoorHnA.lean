/- Plain laws on flows: order of nodes, numbers as bytes. -/
namespace FK
structure Node where
 CJ : Int
 close : Int
 beat : Int
 base : Int
 cap : Int
 CK : Int
 after : List Int
 deriving Inhabited
structure Flow where
 deadline : Int
 CG : List Node
 deriving Inhabited
def dg (l : List Node) (i : Nat) : List Nat := match l[i]? with | some n => n.after.map Int.toNat | none => []
inductive Ac (l : List Node) : Nat → Prop where
 | mk (i : Nat) (h : ∀ k, k ∈ dg l i → Ac l k) : Ac l i
theorem mj : ∀ t w, w.testBit t = true → (∀ j, j < t → w.testBit j = false) →
 ∀ j, (w &&& (w - 1)).testBit j = (w.testBit j && decide (j ≠ t)) := by
 intro t
 induction t with
 | zero =>
  intro w h1 _ j
  have ho : w % 2 = 1 := by simpa [Nat.testBit_zero] using h1
  rw [Nat.testBit_and]
  cases j with
  | zero => simp [Nat.testBit_zero]; omega
  | succ j =>
   rw [Nat.testBit_succ, Nat.testBit_succ, show (w - 1) / 2 = w / 2 by omega]; simp
 | succ t ih =>
  intro w h1 h2 j
  have he : w % 2 = 0 := by
   have := h2 0 (by omega)
   simp [Nat.testBit_zero] at this; omega
  have hp : 0 < w := by
   rcases Nat.eq_zero_or_pos w with h | h
   · subst h; simp at h1
   · exact h
  rw [Nat.testBit_succ] at h1
  have ih' := ih (w / 2) h1 (fun j hj => by have := h2 (j + 1) (by omega); rwa [Nat.testBit_succ] at this)
  rw [Nat.testBit_and]
  cases j with
  | zero => simp [Nat.testBit_zero]; omega
  | succ j =>
   have := ih' j
   rw [Nat.testBit_and] at this
   rw [Nat.testBit_succ, Nat.testBit_succ, show (w - 1) / 2 = w / 2 - 1 by omega, this]
   simp
def em : List Nat → Nat
 | [] => 0
 | k :: l => (1 <<< k) ||| em l
theorem jE (k j : Nat) : (1 <<< k).testBit j = decide (j = k) := by
 rw [Nat.one_shiftLeft, Nat.testBit_two_pow]; simp [eq_comm]
theorem lF (l : List Nat) (j : Nat) : (em l).testBit j = decide (j ∈ l) := by
 induction l with
 | nil => simp [em]
 | cons k l ih => rw [em, Nat.testBit_or, ih, jE]; simp
theorem sK (a b : List Nat) : em (a ++ b) = em a ||| em b := by
 induction a with
 | nil => simp [em]
 | cons k a ih => simp [em, ih, Nat.or_assoc]
theorem m2 (a b : Nat) : a &&& b = 0 ↔ ∀ j, ¬ (a.testBit j = true ∧ b.testBit j = true) := by
 constructor
 · intro h j
   have := congrArg (fun x => x.testBit j) h
   simp [Nat.testBit_and] at this
   intro ⟨h1, h2⟩; simp [h1, h2] at this
 · intro h
   apply Nat.eq_of_testBit_eq
   intro j
   have := h j
   rw [Nat.testBit_and, Nat.zero_testBit]
   cases h1 : a.testBit j <;> cases h2 : b.testBit j <;> simp_all
theorem f9 (l : List Nat) (left : Nat) : em l &&& left = 0 ↔ ∀ k ∈ l, left.testBit k = false := by
 rw [m2]
 constructor
 · intro h k hk
   have := h k
   rw [lF] at this
   simp [hk] at this; exact this
 · intro h j ⟨h1, h2⟩
   rw [lF] at h1
   have := h j (by simpa using h1)
   rw [this] at h2; cases h2
structure Ordering (l : List Node) (left : Nat) (told : List Nat) : Prop where
 bits : ∀ i, left.testBit i = true ↔ i < l.length ∧ i ∉ told
 lt : ∀ i ∈ told, i < l.length
 nodup : told.Nodup
 behind : ∀ a i b, told = a ++ i :: b → ∀ k ∈ dg l i, k < l.length → k ∈ a
section
variable {l : List Node} {told : List Nat}
theorem Ordering.start (l : List Node) : Ordering l (2 ^ l.length - 1) [] where
 bits := by intro i; simp [Nat.testBit_two_pow_sub_one]
 lt := by simp
 nodup := by simp
 behind := by intro a i b h; simp at h
theorem Ordering.tell {left : Nat} (h : Ordering l left told) {i : Nat} (hi : left.testBit i = true)
 (hn : ∀ k ∈ dg l i, left.testBit k = false) {left' : Nat} (hl : ∀ j, left'.testBit j = (left.testBit j && decide (j ≠ i))) : Ordering l left' (told ++ [i]) where
 bits := by
  intro j
  rw [hl j]
  have := h.bits j
  simp
  constructor
  · rintro ⟨h1, h2⟩; exact ⟨(this.1 h1).1, (this.1 h1).2, h2⟩
  · rintro ⟨h1, h2, h3⟩; exact ⟨this.2 ⟨h1, h2⟩, h3⟩
 lt := by
  intro j hj
  simp at hj
  rcases hj with hj | rfl
  · exact h.lt j hj
  · exact ((h.bits j).1 hi).1
 nodup := by
  rw [List.nodup_append]
  refine ⟨h.nodup, by simp, ?_⟩
  intro a ha b hb
  simp at hb; subst hb
  rintro rfl
  exact ((h.bits _).1 hi).2 ha
 behind := by
  intro a j b hab k hk hlt
  rcases List.eq_nil_or_concat b with rfl | ⟨b', x, rfl⟩
  · have := List.append_inj' hab (by simp)
    obtain ⟨h1, h2⟩ := this
    simp at h2; subst h2; subst h1
    have := hn k hk
    have hb := h.bits k
    rw [this] at hb
    simp [hlt] at hb
    exact hb
  · rw [List.concat_eq_append, ← List.cons_append, ← List.append_assoc] at hab
    have := (List.append_inj' hab (by simp)).1
    exact h.behind a j b' this k hk hlt
theorem Ordering.ac {left : Nat} (h : Ordering l left told) (hv : ∀ i, ∀ k ∈ dg l i, k < l.length) : ∀ i ∈ told, Ac l i := by
 have key : ∀ n, ∀ a b, told = a ++ b → a.length = n → ∀ i ∈ a, Ac l i := by
  intro n
  induction n using Nat.strongRecOn with
  | _ n ih =>
   intro a b hab hlen i hi
   obtain ⟨a1, a2, rfl⟩ := List.append_of_mem hi
   refine .mk i fun k hk => ?_
   have := h.behind a1 i (a2 ++ b) (by rw [hab]; simp) k hk (hv i k hk)
   exact ih a1.length (by rw [← hlen]; simp) a1 (i :: a2 ++ b) (by rw [hab]; simp) rfl k this
 intro i hi
 exact key _ told [] (by simp) rfl i hi
theorem Ordering.stuck {left : Nat} (h : Ordering l left told) (hv : ∀ i, ∀ k ∈ dg l i, k < l.length)
 (hs : ∀ i, left.testBit i = true → ∃ k ∈ dg l i, left.testBit k = true) (i : Nat) : left.testBit i = true ↔ i < l.length ∧ ¬ Ac l i := by
 have key : ∀ i, Ac l i → left.testBit i = false := by
  intro i hi
  induction hi with
  | mk i _ ih =>
   cases hb : left.testBit i with
   | false => rfl
   | true =>
    obtain ⟨k, hk, hb'⟩ := hs i hb
    rw [ih k hk] at hb'; cases hb'
 constructor
 · intro hb
   refine ⟨((h.bits i).1 hb).1, fun ha => ?_⟩
   rw [key i ha] at hb; cases hb
 · intro ⟨h1, h2⟩
   refine (h.bits i).2 ⟨h1, fun hm => h2 (h.ac hv i hm)⟩
end
structure Gone (l : List Node) (g : List Bool) : Prop where
 len : g.length = l.length
 sound : ∀ i, g[i]? = some true → Ac l i
def Whole (l : List Node) (g : List Bool) : Prop := ∀ i, i < l.length → Ac l i → g[i]? = some true
theorem Gone.start (l : List Node) : Gone l (List.replicate l.length false) where
 len := by simp
 sound := by intro i h; simp [List.getElem?_replicate] at h
def More (g g' : List Bool) : Prop := ∀ i : Nat, g[i]? = some true → g'[i]? = some true
theorem More.refl (g : List Bool) : More g g := fun _ h => h
theorem More.trans {a b c : List Bool} (h : More a b) (k : More b c) : More a c := fun i x => k i (h i x)
theorem uy : ∀ {g g' : List Bool}, g.length = g'.length → More g g' → g.count true ≤ g'.count true ∧ ((∃ i : Nat, g[i]? = some false ∧ g'[i]? = some true) → g.count true < g'.count true) := by
 intro g
 induction g with
 | nil => intro g' hl _; exact ⟨by simp, fun ⟨i, h, _⟩ => by simp at h⟩
 | cons b g ih =>
  intro g' hl hm
  cases g' with
  | nil => simp at hl
  | cons b' g' =>
   have hm' : More g g' := fun i h => by have := hm (i + 1) (by simpa using h); simpa using this
   obtain ⟨h1, h2⟩ := ih (by simpa using hl) hm'
   have h0 : b = true → b' = true := fun hb => by have := hm 0 (by simp [hb]); simpa using this
   have hc : ∀ x : Bool, (if x == true then 1 else 0) = (if x = true then 1 else 0) := by intro x; cases x <;> rfl
   simp only [List.count_cons]
   refine ⟨by cases b <;> cases b' <;> simp at h0 ⊢ <;> omega, ?_⟩
   rintro ⟨i, hi, hi'⟩
   cases i with
   | zero => simp at hi hi'; subst hi hi'; simp; omega
   | succ i =>
    simp at hi hi'
    have := h2 ⟨i, hi, hi'⟩
    cases b <;> cases b' <;> simp_all <;> omega
structure Sweep (l : List Node) (g g' : List Bool) (i : Nat) : Prop where
 gone : Gone l g'
 more : More g g'
 asked : ∀ j, j < i → (∀ k ∈ dg l j, g[k]? = some true) → g'[j]? = some true
theorem Sweep.start {l : List Node} {g : List Bool} (h : Gone l g) : Sweep l g g 0 := ⟨h, .refl g, fun _ h => by omega⟩
theorem Sweep.next {l : List Node} {g g' : List Bool} {i : Nat} (h : Sweep l g g' i) (hi : i < l.length) {b : Bool}
 (hb : b = true ↔ ∀ k ∈ dg l i, g'[k]? = some true) (hv : ∀ k ∈ dg l i, k < l.length) {v : Bool} (hv' : v = (g'.getD i false || b)) : Sweep l g (g'.set i v) (i + 1) := by
 have hlen := h.gone.len
 have hmore : More g' (g'.set i v) := by
  intro j hj
  rw [List.getElem?_set]
  split
  · rename_i he; subst he
    rw [if_pos (by omega), hv', List.getD, hj]; simp
  · exact hj
 refine ⟨⟨by simp [hlen], ?_⟩, h.more.trans hmore, ?_⟩
 · intro j hj
   rw [List.getElem?_set] at hj
   split at hj
   · rename_i he; subst he
     rw [if_pos (by omega)] at hj
     simp [hv'] at hj
     rcases hj with hj | hj
     · exact h.gone.sound i (by
        rcases hx : g'[i]? with _ | x
        · simp [hx] at hj
        · simp [hx] at hj; rw [hj])
     · exact .mk i fun k hk => h.gone.sound k (hb.1 hj k hk)
   · exact h.gone.sound j hj
 · intro j hj hall
   rcases Nat.lt_or_ge j i with hlt | hge
   · exact hmore j (h.asked j hlt hall)
   · obtain rfl : j = i := by omega
     have : b = true := hb.2 fun k hk => h.more k (hall k hk)
     rw [List.getElem?_set, if_pos rfl, if_pos (by omega), hv', this]; simp
def Far (l : List Node) (g : List Bool) (r : Nat) : Prop := Whole l g ∨ r ≤ g.count true
theorem th {l : List Node} (hv : ∀ i, ∀ k ∈ dg l i, k < l.length) {g : List Bool} (hl : g.length = l.length) : Whole l g ∨ ∃ i, i < l.length ∧ g[i]? = some false ∧ ∀ k ∈ dg l i, g[k]? = some true := by
 by_cases hw : Whole l g
 · exact .inl hw
 · right
   have key : ∀ i, Ac l i → i < l.length → g[i]? = some true ∨ ∃ i, i < l.length ∧ g[i]? = some false ∧ ∀ k ∈ dg l i, g[k]? = some true := by
    intro i hi
    induction hi with
    | mk i _ ih =>
     intro hlt
     by_cases hall : ∀ k ∈ dg l i, g[k]? = some true
     · rcases hx : g[i]? with _ | x
       · rw [List.getElem?_eq_none_iff] at hx; omega
       · cases x with
         | true => exact .inl rfl
         | false => exact .inr ⟨i, hlt, hx, hall⟩
     · have ⟨k, hk⟩ : ∃ k, k ∈ dg l i ∧ ¬ g[k]? = some true := by
        apply Classical.byContradiction
        intro hn
        exact hall fun k hk => Classical.byContradiction fun hne => hn ⟨k, hk, hne⟩
       rcases ih k hk.1 (hv i k hk.1) with h | h
       · exact absurd h hk.2
       · exact .inr h
   apply Classical.byContradiction
   intro hn
   exact hw fun i hlt ha => (key i ha hlt).resolve_right hn
theorem Far.next {l : List Node} (hv : ∀ i, ∀ k ∈ dg l i, k < l.length) {g g' : List Bool} {r : Nat} (hg : Gone l g) (h : Far l g r) (s : Sweep l g g' l.length) : Far l g' (r + 1) := by
 rcases h with h | h
 · exact .inl fun i hi ha => s.more i (h i hi ha)
 · rcases th hv hg.len with hw | ⟨i, hi, hf, hall⟩
   · exact .inl fun i hi ha => s.more i (hw i hi ha)
   · have := (uy (by rw [hg.len, s.gone.len]) s.more).2 ⟨i, hf, s.asked i hi hall⟩
     exact .inr (by omega)
end FK

namespace FK
def span (n low : Int) : Prop := low ≤ n ∧ n ≤ 1048576
instance (n low : Int) : Decidable (span n low) := inferInstanceAs (Decidable (_ ∧ _))
def cM (n : Node) : Prop := 1 ≤ n.CJ ∧ n.CJ ≤ 5 ∧ span n.close 1 ∧ span n.beat 0 ∧ span n.base 1 ∧ span n.cap n.base ∧ span n.CK 0
def EdgesOk (len : Nat) : Int → List Int → Prop
 | _, [] => True
 | p, k :: r => p < k ∧ k < len ∧ EdgesOk len k r
def gC (f : Flow) : Prop := span f.deadline 1 ∧ 1 ≤ f.CG.length ∧ f.CG.length ≤ 12
def OkTo (f : Flow) (i : Nat) : Prop := ∀ j n, j < i → f.CG[j]? = some n → cM n ∧ EdgesOk f.CG.length (-1) n.after
inductive Checked (f : Flow) : Int → Int → Prop where
 | head (h : ¬ gC f) : Checked f 2 (-1)
 | bound (i : Nat) (n : Node) (h : gC f) (ho : OkTo f i) (hn : f.CG[i]? = some n) (hb : ¬ cM n) : Checked f 2 i
 | edge (i : Nat) (n : Node) (h : gC f) (ho : OkTo f i) (hn : f.CG[i]? = some n) (hb : cM n) (he : ¬ EdgesOk f.CG.length (-1) n.after) : Checked f 3 i
 | cycle (i : Nat) (h : gC f) (ho : OkTo f f.CG.length) (hi : i < f.CG.length) (hn : ¬ Ac f.CG i) (hl : ∀ j, j < i → Ac f.CG j) : Checked f 4 i
 | ok (h : gC f) (ho : OkTo f f.CG.length) (ha : ∀ i, i < f.CG.length → Ac f.CG i) : Checked f 0 (-1)
theorem bU {α : Type} {l : List α} {i : Nat} {x : α} (h : l[i]? = some x) : i < l.length := (List.getElem?_eq_some_iff.1 h).1
theorem iy {f : Flow} {i j : Nat} {n m : Node} (hi : OkTo f i) (hj : OkTo f j) (hn : f.CG[i]? = some n) (hm : f.CG[j]? = some m)
 (bi : ¬ (cM n ∧ EdgesOk f.CG.length (-1) n.after)) (bj : ¬ (cM m ∧ EdgesOk f.CG.length (-1) m.after)) : i = j := by
 rcases Nat.lt_trichotomy i j with h | h | h
 · exact absurd (hj i n h hn) bi
 · exact h
 · exact absurd (hi j m h hm) bj
theorem Checked.unique {f : Flow} {e a e' a' : Int} (h : Checked f e a) (h' : Checked f e' a') : e = e' ∧ a = a' := by
 cases h with
 | head h => cases h' <;> first | exact ⟨rfl, rfl⟩ | contradiction
 | bound i n h ho hn hb =>
  have b1 : ¬ (cM n ∧ EdgesOk f.CG.length (-1) n.after) := fun x => hb x.1
  cases h' with
  | head h' => contradiction
  | bound j m _ ho' hm hb' => obtain rfl := iy ho ho' hn hm b1 (fun x => hb' x.1); exact ⟨rfl, rfl⟩
  | edge j m _ ho' hm hb' he =>
   obtain rfl := iy ho ho' hn hm b1 (fun x => he x.2)
   rw [hn] at hm; cases hm; contradiction
  | cycle j _ ho' => exact absurd (ho' i n (bU hn) hn) b1
  | ok _ ho' => exact absurd (ho' i n (bU hn) hn) b1
 | edge i n h ho hn hb he =>
  have b1 : ¬ (cM n ∧ EdgesOk f.CG.length (-1) n.after) := fun x => he x.2
  cases h' with
  | head h' => contradiction
  | bound j m _ ho' hm hb' =>
   obtain rfl := iy ho ho' hn hm b1 (fun x => hb' x.1)
   rw [hn] at hm; cases hm; contradiction
  | edge j m _ ho' hm hb' he' => obtain rfl := iy ho ho' hn hm b1 (fun x => he' x.2); exact ⟨rfl, rfl⟩
  | cycle j _ ho' => exact absurd (ho' i n (bU hn) hn) b1
  | ok _ ho' => exact absurd (ho' i n (bU hn) hn) b1
 | cycle i h ho hi hn hl =>
  cases h' with
  | head h' => contradiction
  | bound j m _ ho' hm hb' => exact absurd (ho j m (bU hm) hm).1 hb'
  | edge j m _ ho' hm hb' he => exact absurd (ho j m (bU hm) hm).2 he
  | cycle j _ _ hj hn' hl' =>
   rcases Nat.lt_trichotomy i j with h | h | h
   · exact absurd (hl' i h) hn
   · subst h; exact ⟨rfl, rfl⟩
   · exact absurd (hl j h) hn'
  | ok _ _ ha => exact absurd (ha i hi) hn
 | ok h ho ha =>
  cases h' with
  | head h' => contradiction
  | bound j m _ ho' hm hb' => exact absurd (ho j m (bU hm) hm).1 hb'
  | edge j m _ ho' hm hb' he => exact absurd (ho j m (bU hm) hm).2 he
  | cycle j _ _ hj hn' _ => exact absurd (ha j hj) hn'
  | ok => exact ⟨rfl, rfl⟩
open Classical in
noncomputable def chk (f : Flow) : Int × Int := if h : ∃ p : Int × Int, Checked f p.1 p.2 then choose h else (0, 0)
theorem Checked.chk {f : Flow} {e a : Int} (h : Checked f e a) : chk f = (e, a) := by
 have hx : ∃ p : Int × Int, Checked f p.1 p.2 := ⟨(e, a), h⟩
 unfold FK.chk
 rw [dif_pos hx]
 have hc := Classical.choose_spec hx
 have ⟨h1, h2⟩ := hc.unique h
 exact Prod.ext h1 h2
theorem ql {l : List Node} {i : Nat} {n : Node} (h : l[i]? = some n) : dg l i = n.after.map Int.toNat := by simp [dg, h]
theorem EdgesOk.bounds {len : Nat} : ∀ {p : Int} {l : List Int}, EdgesOk len p l → ∀ k ∈ l, p < k ∧ k < len := by
 intro p l
 induction l generalizing p with
 | nil => intro _ k hk; simp at hk
 | cons a l ih =>
  intro ⟨h1, h2, h3⟩ k hk
  simp at hk
  rcases hk with rfl | hk
  · exact ⟨h1, h2⟩
  · have := ih h3 k hk; omega
theorem OkTo.aft_lt {f : Flow} (h : OkTo f f.CG.length) (i : Nat) : ∀ k ∈ dg f.CG i, k < f.CG.length := by
 intro k hk
 unfold dg at hk
 split at hk
 · rename_i n hn
   simp at hk
   obtain ⟨x, hx, rfl⟩ := hk
   have := (h i n (bU hn) hn).2.bounds x hx
   omega
 · simp at hk
theorem EdgesOk.length_le {len : Nat} : ∀ {p : Int} {l : List Int}, EdgesOk len p l → -1 ≤ p → l.length + (p + 1).toNat ≤ len ∨ l = [] := by
 intro p l
 induction l generalizing p with
 | nil => intro _ _; exact .inr rfl
 | cons a l ih =>
  intro ⟨h1, h2, h3⟩ hp
  left
  rcases ih h3 (by omega) with h | h
  · simp; omega
  · subst h; simp; omega
theorem BF {p : Nat → Prop} {n : Nat} (h : p n) : ∃ m, m ≤ n ∧ p m ∧ ∀ j, j < m → ¬ p j := by
 induction n using Nat.strongRecOn with
 | _ n ih =>
  by_cases hx : ∃ j, j < n ∧ p j
  · obtain ⟨j, hj, hp⟩ := hx
    obtain ⟨m, h1, h2, h3⟩ := ih j hj hp
    exact ⟨m, by omega, h2, h3⟩
  · exact ⟨n, Nat.le_refl _, h, fun j hj hp => hx ⟨j, hj, hp⟩⟩
theorem o9 (f : Flow) : ∃ e a, Checked f e a := by
 by_cases hh : gC f
 · by_cases ho : OkTo f f.CG.length
   · by_cases ha : ∃ i, i < f.CG.length ∧ ¬ Ac f.CG i
     · obtain ⟨i, hi⟩ := ha
       obtain ⟨m, h1, h2, h3⟩ := BF (p := fun i => i < f.CG.length ∧ ¬ Ac f.CG i) hi
       exact ⟨_, _, .cycle m hh ho h2.1 h2.2 fun j hj => Classical.byContradiction fun hn => h3 j hj ⟨by omega, hn⟩⟩
     · exact ⟨_, _, .ok hh ho fun i hi => Classical.byContradiction fun hn => ha ⟨i, hi, hn⟩⟩
   · have hx : ∃ i : Nat, ∃ n, f.CG[i]? = some n ∧ ¬ (cM n ∧ EdgesOk f.CG.length (-1) n.after) := by
      apply Classical.byContradiction
      intro hn
      exact ho fun j n _ hj => Classical.byContradiction fun hb => hn ⟨j, n, hj, hb⟩
     obtain ⟨i, hi⟩ := hx
     obtain ⟨m, _, ⟨n, h1, h2⟩, h3⟩ := BF (p := fun i : Nat => ∃ n, f.CG[i]? = some n ∧ ¬ (cM n ∧ EdgesOk f.CG.length (-1) n.after)) hi
     have hok : OkTo f m := fun j x hj hx => Classical.byContradiction fun hb => h3 j hj ⟨x, hx, hb⟩
     by_cases hb : cM n
     · exact ⟨_, _, .edge m n hh hok h1 hb fun he => h2 ⟨hb, he⟩⟩
     · exact ⟨_, _, .bound m n hh hok h1 hb⟩
 · exact ⟨_, _, .head hh⟩
theorem tw (f : Flow) : Checked f (chk f).1 (chk f).2 := by
 obtain ⟨e, a, h⟩ := o9 f
 rw [h.chk]; exact h
structure Fit (f : Flow) : Prop where
 head : gC f
 CG : OkTo f f.CG.length
 ac : ∀ i, i < f.CG.length → Ac f.CG i
theorem zX {f : Flow} (h : (chk f).1 = 0) : Fit f := by
 have hc := tw f
 rw [h] at hc
 generalize (chk f).2 = a at hc
 generalize he : (0 : Int) = e at hc
 cases hc with
 | ok h ho ha => exact ⟨h, ho, ha⟩
 | _ => omega
theorem Fit.chk {f : Flow} (h : Fit f) : chk f = (0, -1) := (Checked.ok h.head h.CG h.ac).chk
def bA (n : Nat) : List UInt8 := if n < 128 then [UInt8.ofNat n] else UInt8.ofNat (n % 128 + 128) :: bA (n / 128)
termination_by n
def dq (n : Node) : List UInt8 :=
 bA n.CJ.toNat ++ bA n.close.toNat ++ bA n.beat.toNat ++ bA n.base.toNat ++ bA n.cap.toNat ++ bA n.CK.toNat ++ bA n.after.length ++ n.after.flatMap fun k => bA k.toNat
def bN (f : Flow) : List UInt8 := bA f.deadline.toNat ++ bA f.CG.length ++ f.CG.flatMap dq
def rd (b : List UInt8) (p : Nat) : Except Nat (Nat × Nat) :=
 match b[p]? with
 | none => .error p
 | some c => if c.toNat < 128 then .ok (c.toNat, p + 1) else
  match b[p + 1]? with
  | none => .error p
  | some d => if d.toNat < 128 then (if d.toNat = 0 then .error p else .ok (c.toNat % 128 + d.toNat * 128, p + 2)) else
   match b[p + 2]? with
   | none => .error p
   | some e => if e.toNat < 128 then (if e.toNat = 0 then .error p else .ok (c.toNat % 128 + d.toNat % 128 * 128 + e.toNat * 16384, p + 3)) else .error p
abbrev Rd (α : Type) := Nat → Except Nat (α × Nat)
def kY {α : Type} (r : Rd α) : Nat → List α → Rd (List α)
 | 0, l, p => .ok (l, p)
 | n + 1, l, p => match r p with
  | .error e => .error e
  | .ok (x, p') => kY r n (l ++ [x]) p'
def eo (b : List UInt8) : Rd Int := fun p => match rd b p with
 | .error e => .error e
 | .ok (n, p') => .ok ((n : Int), p')
def dU {α : Type} (b : List UInt8) (r : Rd α) : Rd (List α) := fun p => match rd b p with
 | .error e => .error e
 | .ok (n, p') => kY r n [] p'
def andThen {α β : Type} (r : Except Nat (α × Nat)) (k : α → Rd β) : Except Nat (β × Nat) := match r with
 | .error e => .error e
 | .ok (x, p) => k x p
def fD (b : List UInt8) : Rd Node := fun p =>
 andThen (eo b p) fun CJ p => andThen (eo b p) fun close p => andThen (eo b p) fun beat p => andThen (eo b p) fun base p =>
 andThen (eo b p) fun cap p => andThen (eo b p) fun CK p => andThen (dU b (eo b) p) fun after p => .ok (⟨CJ, close, beat, base, cap, CK, after⟩, p)
def iF (b : List UInt8) : Rd Flow := fun p =>
 andThen (eo b p) fun deadline p => andThen (dU b (fD b) p) fun CG p => .ok (⟨deadline, CG⟩, p)
noncomputable def pc (b : List UInt8) : Except (Int × Int) Flow := match iF b 0 with
 | .error e => .error (1, (e : Int))
 | .ok (f, p) => if p < b.length then .error (1, (p : Int)) else if (chk f).1 = 0 then .ok f else .error (chk f)
end FK

namespace FK
section
variable {b : List UInt8} {n : Nat}
def At (b : List UInt8) (p : Nat) (l : List UInt8) : Prop := ∀ i, i < l.length → b[p + i]? = l[i]?
theorem At.append {p : Nat} {l m : List UInt8} (h : At b p (l ++ m)) : At b p l ∧ At b (p + l.length) m := by
 constructor
 · intro i hi
   rw [h i (by simp; omega), List.getElem?_append_left hi]
 · intro i hi
   have := h (l.length + i) (by simp; omega)
   rw [Nat.add_assoc, this, List.getElem?_append_right (by omega)]
   congr 1; omega
theorem Ab (b : List UInt8) : At b 0 b := by intro i _; simp
theorem gI (h : n < 128) : bA n = [UInt8.ofNat n] := by rw [bA, if_pos h]
theorem jg (h : ¬ n < 128) : bA n = UInt8.ofNat (n % 128 + 128) :: bA (n / 128) := by rw [bA, if_neg h]
theorem ct (h : n < 2097152) : (bA n).length ≤ 3 := by
 by_cases h1 : n < 128
 · rw [gI h1]; simp
 · rw [jg h1]
   by_cases h2 : n / 128 < 128
   · rw [gI h2]; simp
   · rw [jg h2, gI (by omega)]; simp
theorem vu {p : Nat} (hn : n < 2097152) (h : At b p (bA n)) : rd b p = .ok (n, p + (bA n).length) := by
 by_cases h1 : n < 128
 · rw [gI h1] at h ⊢
   have h0 := h 0 (by simp)
   simp at h0
   unfold rd
   rw [h0]
   have : (UInt8.ofNat n).toNat = n := by simp; omega
   simp only [this]
   rw [if_pos h1]; simp
 · rw [jg h1] at h ⊢
   by_cases h2 : n / 128 < 128
   · rw [gI h2] at h ⊢
     have h0 := h 0 (by simp)
     have h1' := h 1 (by simp)
     simp only [Nat.add_zero, List.getElem?_cons_zero, List.getElem?_cons_succ] at h0 h1'
     have e0 : (UInt8.ofNat (n % 128 + 128)).toNat = n % 128 + 128 := by simp; omega
     have e1 : (UInt8.ofNat (n / 128)).toNat = n / 128 := by simp; omega
     unfold rd
     rw [h0]
     simp only [e0]
     rw [if_neg (by omega), h1']
     simp only [e1]
     rw [if_pos h2, if_neg (by omega)]
     simp; omega
   · rw [jg h2, gI (n := n / 128 / 128) (by omega)] at h ⊢
     have h0 := h 0 (by simp)
     have h1' := h 1 (by simp)
     have h2' := h 2 (by simp)
     simp only [Nat.add_zero, List.getElem?_cons_zero, List.getElem?_cons_succ] at h0 h1' h2'
     have e0 : (UInt8.ofNat (n % 128 + 128)).toNat = n % 128 + 128 := by simp; omega
     have e1 : (UInt8.ofNat (n / 128 % 128 + 128)).toNat = n / 128 % 128 + 128 := by simp; omega
     have e2 : (UInt8.ofNat (n / 128 / 128)).toNat = n / 128 / 128 := by simp; omega
     unfold rd
     rw [h0]
     simp only [e0]
     rw [if_neg (by omega), h1']
     simp only [e1]
     rw [if_neg (by omega), h2']
     simp only [e2]
     rw [if_pos (by omega), if_neg (by omega)]
     simp; omega
theorem eA {p : Nat} {n : Int} (h0 : 0 ≤ n) (hn : n < 2097152) (h : At b p (bA n.toNat)) : eo b p = .ok (n, p + (bA n.toNat).length) := by
 unfold eo
 rw [vu (by omega) h]
 simp; omega
theorem vG {α : Type} {b : List UInt8} (r : Rd α) (enc : α → List UInt8) : ∀ (xs l : List α) (p : Nat), (∀ x ∈ xs, ∀ p, At b p (enc x) → r p = .ok (x, p + (enc x).length)) →
 At b p (xs.flatMap enc) → kY r xs.length l p = .ok (l ++ xs, p + (xs.flatMap enc).length)
 | [], l, p, _, _ => by simp [kY]
 | x :: xs, l, p, hr, h => by
  rw [List.flatMap_cons] at h
  have ⟨h1, h2⟩ := h.append
  simp only [List.length_cons, kY]
  rw [hr x (by simp) p h1]
  simp only
  rw [vG r enc xs (l ++ [x]) _ (fun y hy => hr y (by simp [hy])) h2]
  simp; omega
theorem pz {α : Type} (r : Rd α) (enc : α → List UInt8) (xs : List α) (p : Nat) (hl : xs.length < 2097152) (hr : ∀ x ∈ xs, ∀ p, At b p (enc x) → r p = .ok (x, p + (enc x).length))
 (h : At b p (bA xs.length ++ xs.flatMap enc)) : dU b r p = .ok (xs, p + (bA xs.length ++ xs.flatMap enc).length) := by
 have ⟨h1, h2⟩ := h.append
 unfold dU
 rw [vu hl h1]
 simp only
 rw [vG r enc xs [] _ hr h2]
 simp; omega
theorem wN {p : Nat} {n : Node} {len : Nat} (hlen : len ≤ 12) (hn : cM n) (he : EdgesOk len (-1) n.after) (h : At b p (dq n)) : fD b p = .ok (n, p + (dq n).length) := by
 obtain ⟨a1, a2, ⟨b1, b2⟩, ⟨c1, c2⟩, ⟨d1, d2⟩, ⟨e1, e2⟩, f1, f2⟩ := hn
 have hlen' : (dq n).length = (bA n.CJ.toNat).length + ((bA n.close.toNat).length + ((bA n.beat.toNat).length + ((bA n.base.toNat).length + ((bA n.cap.toNat).length + ((bA n.CK.toNat).length + (bA n.after.length ++ n.after.flatMap fun k => bA k.toNat).length))))) := by
  simp [dq]
 have h' : At b p (bA n.CJ.toNat ++ (bA n.close.toNat ++ (bA n.beat.toNat ++ (bA n.base.toNat ++ (bA n.cap.toNat ++ (bA n.CK.toNat ++ (bA n.after.length ++ n.after.flatMap fun k => bA k.toNat))))))) := by
  simpa [dq] using h
 have ⟨g1, r1⟩ := h'.append
 have ⟨g2, r2⟩ := r1.append
 have ⟨g3, r3⟩ := r2.append
 have ⟨g4, r4⟩ := r3.append
 have ⟨g5, r5⟩ := r4.append
 have ⟨g6, r6⟩ := r5.append
 unfold fD
 rw [eA (by omega) (by omega) g1]; simp only [andThen]
 rw [eA (by omega) (by omega) g2]; simp only
 rw [eA (by omega) (by omega) g3]; simp only
 rw [eA (by omega) (by omega) g4]; simp only
 rw [eA (by omega) (by omega) g5]; simp only
 rw [eA (by omega) (by omega) g6]; simp only
 have hb := he.bounds
 have hal : n.after.length < 2097152 := by
  rcases he.length_le (by omega) with h | h
  · omega
  · rw [h]; simp
 rw [pz (eo b) (fun k => bA k.toNat) n.after _ hal (fun x hx q hq => eA (by have := hb x hx; omega) (by have := hb x hx; omega) hq) r6]
 simp only
 rw [hlen']
 congr 2
 omega
theorem wP {p : Nat} {f : Flow} (hh : gC f) (ho : OkTo f f.CG.length) (h : At b p (bN f)) : iF b p = .ok (f, p + (bN f).length) := by
 obtain ⟨⟨a1, a2⟩, a3, a4⟩ := hh
 have h' : At b p (bA f.deadline.toNat ++ (bA f.CG.length ++ f.CG.flatMap dq)) := by simpa [bN] using h
 have ⟨g1, r1⟩ := h'.append
 unfold iF
 rw [eA (by omega) (by omega) g1]; simp only [andThen]
 rw [pz (fD b) dq f.CG _ (by omega) (fun x hx q hq => by
  obtain ⟨i, hi, hx⟩ := List.mem_iff_getElem.1 hx
  have := ho i x hi (by rw [List.getElem?_eq_getElem hi, hx])
  exact wN a4 this.1 this.2 hq) r1]
 simp only
 have : (bN f).length = (bA f.deadline.toNat).length + (bA f.CG.length ++ f.CG.flatMap dq).length := by simp [bN]
 rw [this]
 congr 2
 omega
theorem nh {f : Flow} (h : Fit f) : pc (bN f) = .ok f := by
 unfold pc
 rw [wP h.head h.CG (Ab _)]
 simp [h.chk]
end
end FK

namespace FK
structure Tm (K : Type) where
 key : K
 due : Nat
 seq : Nat
section
variable {a b l now s : Nat}
def gw (now due : Nat) : Nat := Nat.log2 (due ^^^ now) / 6
def tE (l due : Nat) : Nat := due / 64 ^ l % 64
theorem nr (l : Nat) : 64 ^ l = 2 ^ (6 * l) := by rw [Nat.pow_mul]
theorem Am (a b k : Nat) : (a ^^^ b) / 2 ^ k = (a / 2 ^ k) ^^^ (b / 2 ^ k) := by
 rw [← Nat.shiftRight_eq_div_pow, ← Nat.shiftRight_eq_div_pow, ← Nat.shiftRight_eq_div_pow, Nat.shiftRight_xor_distrib]
theorem qM (a b : Nat) : a ^^^ b = 0 ↔ a = b := by
 constructor
 · intro h
   apply Nat.eq_of_testBit_eq
   intro i
   have := congrArg (fun x => x.testBit i) h
   simp [Nat.testBit_xor] at this
   exact this
 · rintro rfl; exact Nat.xor_self a
theorem qj {due : Nat} (hl : 1 ≤ l) : gw now due < l ↔ due / 64 ^ l = now / 64 ^ l := by
 rw [nr, ← qM, ← Am]
 unfold gw
 rw [Nat.div_lt_iff_lt_mul (by omega), Nat.div_eq_zero_iff]
 have hp : 0 < 2 ^ (6 * l) := Nat.two_pow_pos _
 by_cases h0 : due ^^^ now = 0
 · rw [h0]; simp; omega
 · rw [Nat.log2_lt h0, Nat.mul_comm l 6]; omega
theorem lev_le {due : Nat} : gw now due ≤ l ↔ due / 64 ^ (l + 1) = now / 64 ^ (l + 1) := by
 rw [← qj (by omega)]; omega
theorem nx {due : Nat} (hl : 1 ≤ l) : l ≤ gw now due ↔ due / 64 ^ l ≠ now / 64 ^ l := by
 have := qj (now := now) (due := due) hl; omega
theorem uB {due : Nat} (h1 : now ≤ 2 ^ 62) (h2 : due ≤ 2 ^ 62) : gw now due ≤ 10 := by
 rw [lev_le]
 have e : (64 : Nat) ^ (10 + 1) = 2 ^ 66 := by decide
 rw [e, Nat.div_eq_of_lt (by omega), Nat.div_eq_of_lt (by omega)]
theorem r9 (a l : Nat) : a / 64 ^ (l + 1) = a / 64 ^ l / 64 := by rw [Nat.div_div_eq_div_mul, Nat.pow_succ]
theorem yk (l due : Nat) : tE l due < 64 := Nat.mod_lt _ (by omega)
theorem jJ {due : Nat} (h : gw now due ≤ l) : due / 64 ^ l = now / 64 ^ (l + 1) * 64 + tE l due := by
 have h1 := lev_le.1 h
 rw [r9] at h1
 unfold tE
 have := Nat.div_add_mod (due / 64 ^ l) 64
 omega
theorem kT {k : Nat} (h : a / k < b / k) : a < b := by
 rcases Nat.lt_or_ge a b with h' | h'
 · exact h'
 · have := Nat.div_le_div_right (c := k) h'; omega
theorem w5 (hb : now ≤ b) (h : gw now a < gw now b) : a < b := by
 have h1 : 1 ≤ gw now b := by omega
 have h2 := (nx h1).1 (Nat.le_refl _)
 have h3 := (qj h1).1 h
 have h4 := Nat.div_le_div_right (c := 64 ^ gw now b) hb
 exact kT (k := 64 ^ gw now b) (by omega)
theorem uA (ha : gw now a ≤ l) (hb : gw now b ≤ l) (h : tE l a < tE l b) : a < b := by
 have h1 := jJ ha
 have h2 := jJ hb
 exact kT (k := 64 ^ l) (by omega)
def bx (now l s : Nat) : Nat := now / 64 ^ (l + 1) * 64 ^ (l + 1) + s * 64 ^ l
theorem jl (now l s : Nat) : bx now l s = (now / 64 ^ (l + 1) * 64 + s) * 64 ^ l := by
 unfold bx
 rw [Nat.pow_succ, Nat.add_mul, Nat.mul_assoc, Nat.mul_comm 64]
theorem iu : bx now l s / 64 ^ l = now / 64 ^ (l + 1) * 64 + s := by
 rw [jl, Nat.mul_div_cancel _ (Nat.pow_pos (by omega))]
theorem eU (hs : s < 64) : bx now l s / 64 ^ (l + 1) = now / 64 ^ (l + 1) := by
 rw [r9, iu]; omega
theorem rA {due : Nat} (h : gw now due ≤ l) : bx now l (tE l due) ≤ due := by
 rw [jl, ← jJ h]
 exact Nat.div_mul_le_self _ _
theorem t8 {due : Nat} (h : gw now due = 0) : bx now 0 (tE 0 due) = due := by
 rw [jl, ← jJ (by omega)]; simp
theorem qT {due : Nat} (hl : 1 ≤ l) (h : gw now due = l) (hn : now ≤ due) : now < bx now l (tE l due) := by
 apply kT (k := 64 ^ l)
 rw [iu, ← jJ (by omega)]
 have h1 := (nx hl).1 (Nat.le_of_eq h.symm)
 have := Nat.div_le_div_right (c := 64 ^ l) hn
 omega
theorem pI {now' due : Nat} (h1 : now' / 64 ^ (gw now due + 1) = now / 64 ^ (gw now due + 1)) (h2 : 1 ≤ gw now due → now' / 64 ^ gw now due ≠ due / 64 ^ gw now due) : gw now' due = gw now due := by
 have h3 : gw now' due ≤ gw now due := by rw [lev_le, h1, ← lev_le]; exact Nat.le_refl _
 rcases Nat.eq_zero_or_pos (gw now due) with h | h
 · omega
 · have := (nx (now := now') h).2 (fun e => h2 h e.symm)
   omega
theorem js {m : Nat} (h : a / 64 ^ l = b / 64 ^ l) (hlm : l ≤ m) : a / 64 ^ m = b / 64 ^ m := by
 obtain ⟨k, rfl⟩ := Nat.le.dest hlm
 rw [Nat.pow_add, ← Nat.div_div_eq_div_mul, ← Nat.div_div_eq_div_mul, h]
theorem mz {due : Nat} (hs : s < 64) (h : l < gw now due ∨ gw now due = l ∧ tE l due ≠ s) : gw (bx now l s) due = gw now due := by
 apply pI
 · rcases h with h | h
   · exact js (eU hs) (by omega)
   · rw [h.1]; exact eU hs
 · intro hl
   rcases h with h | ⟨h, h'⟩
   · rw [js (eU hs) (by omega : l + 1 ≤ gw now due)]
     exact fun e => (nx hl).1 (Nat.le_refl _) e.symm
   · rw [h, iu, jJ (now := now) (l := l) (by omega)]; omega
theorem tf {due : Nat} (hl : 1 ≤ l) (h : gw now due = l) : gw (bx now l (tE l due)) due < l := by
 rw [qj hl, iu, ← jJ (by omega)]
theorem yN {to due : Nat} (hs : s < 64) (h1 : now ≤ to) (h2 : to < bx now l s) (h : l < gw now due ∨ gw now due = l ∧ s ≤ tE l due) : gw to due = gw now due := by
 have h3 : to / 64 ^ (l + 1) = now / 64 ^ (l + 1) := by
  have a := Nat.div_le_div_right (c := 64 ^ (l + 1)) h1
  have b := Nat.div_le_div_right (c := 64 ^ (l + 1)) (Nat.le_of_lt h2)
  rw [eU hs] at b
  omega
 apply pI
 · exact js h3 (by omega)
 · intro hl
   rcases h with h | ⟨h, h'⟩
   · rw [js h3 (by omega : l + 1 ≤ gw now due)]
     exact fun e => (nx hl).1 (Nat.le_refl _) e.symm
   · rw [h, jJ (now := now) (due := due) (l := l) (by omega)]
     have : to / 64 ^ l < now / 64 ^ (l + 1) * 64 + s := by
      rw [jl] at h2
      exact (Nat.div_lt_iff_lt_mul (Nat.pow_pos (by omega))).2 h2
     omega
end
end FK

namespace FK
structure Pl where
 run : Nat
 node : Int
 what : Int
instance : BEq Pl := ⟨fun a b => (a.run : Int) == (b.run : Int) && (a.node == b.node && (a.what == b.what && true))⟩
theorem Pl.beq_iff (a b : Pl) : (a == b) = true ↔ a = b := by
 cases a; cases b
 show ((_ : Int) == _ && (_ == _ && (_ == _ && true))) = true ↔ _
 simp
 intro _ _
 omega
instance : LawfulBEq Pl where
 eq_of_beq := fun h => (Pl.beq_iff _ _).1 h
 rfl := (Pl.beq_iff _ _).2 rfl
instance : DecidableEq Pl := fun a b => if h : (a == b) = true then isTrue ((Pl.beq_iff _ _).1 h) else isFalse fun e => h ((Pl.beq_iff _ _).2 e)
end FK

namespace FK
def dQ {α : Type} (f : Nat → α) (i : Nat) (v : α) : Nat → α := fun j => if j = i then v else f j
theorem ck {α : Type} (f : Nat → α) (i : Nat) (v : α) : dQ f i v i = v := by simp [dQ]
theorem bM {α : Type} (f : Nat → α) {i j : Nat} (v : α) (h : j ≠ i) : dQ f i v j = f j := by simp [dQ, h]
structure Tmr where
 key : Pl
 due : Nat
 seq : Nat
 blk : Nat
 lvl : Nat
 slot : Nat
def Tmr.pos (t : Tmr) : Nat := 64 * t.lvl + t.slot
def Tmr.place (now : Nat) (t : Tmr) : Tmr := { t with lvl := gw now t.due, slot := tE (gw now t.due) t.due }
structure WS where
 now : Nat
 seq : Nat
 us : Nat → Nat
 bs : Nat → List Nat
 tms : List Tmr
def clr (a s : Nat) : Nat := a &&& (18446744073709551616 - (2 ^ s + 1))
def WS.put (S : WS) (a : List Tmr) (t : Tmr) (b : List Tmr) : WS :=
 { S with us := dQ S.us (t.place S.now).lvl (S.us (t.place S.now).lvl ||| 2 ^ (t.place S.now).slot), bs := dQ S.bs (t.place S.now).pos (S.bs (t.place S.now).pos ++ [t.blk]), tms := a ++ t.place S.now :: b }
def WS.drop (S : WS) (a : List Tmr) (t : Tmr) (b : List Tmr) : WS :=
 { S with us := if (S.bs t.pos).erase t.blk = [] then dQ S.us t.lvl (clr (S.us t.lvl) t.slot) else S.us, bs := dQ S.bs t.pos ((S.bs t.pos).erase t.blk), tms := a ++ b }
def WS.clear (S : WS) (l s : Nat) : WS := { S with us := dQ S.us l (clr (S.us l) s), bs := dQ S.bs (64 * l + s) [] }
theorem ni {a s j : Nat} (hs : s < 64) (ha : a < 18446744073709551616) : (clr a s).testBit j = (a.testBit j && !decide (j = s)) := by
 unfold clr
 have h1 : (2 : Nat) ^ s < 2 ^ 64 := Nat.pow_lt_pow_right (by omega) hs
 rw [show (18446744073709551616 : Nat) = 2 ^ 64 by rfl, Nat.testBit_and, Nat.testBit_two_pow_sub_succ h1, Nat.testBit_two_pow]
 by_cases hj : j < 64
 · simp only [hj, decide_true, Bool.true_and]
   by_cases h : s = j
   · subst h; simp
   · simp [h, Ne.symm h]
 · have : a.testBit j = false := Nat.testBit_lt_two_pow (Nat.lt_of_lt_of_le ha (by rw [show (18446744073709551616 : Nat) = 2 ^ 64 by rfl]; exact Nat.pow_le_pow_right (by omega) (by omega)))
   simp [this]
theorem clr_lt {a s : Nat} (ha : a < 18446744073709551616) : clr a s < 18446744073709551616 := Nat.lt_of_le_of_lt Nat.and_le_left ha
theorem Cc {a s j : Nat} : (a ||| 2 ^ s).testBit j = (a.testBit j || decide (j = s)) := by
 rw [Nat.testBit_or, Nat.testBit_two_pow]
 congr 1
 simp [eq_comm]
theorem or_lt {a s : Nat} (hs : s < 64) (ha : a < 18446744073709551616) : a ||| 2 ^ s < 18446744073709551616 := by
 have h1 : (2 : Nat) ^ s < 2 ^ 64 := Nat.pow_lt_pow_right (by omega) hs
 exact Nat.or_lt_two_pow (n := 64) ha h1
def ky (un : List Nat) (i : Nat) (t : Tmr) : Bool := !(un.contains t.blk) && t.pos == i
structure Inv (S : WS) (un : List Nat) : Prop where
 nowle : S.now ≤ 2 ^ 62
 keys : (S.tms.map Tmr.key).Nodup
 blks : (S.tms.map Tmr.blk).Nodup
 seqs : S.tms.Pairwise fun a b => a.seq < b.seq
 seqle : ∀ t ∈ S.tms, t.seq ≤ S.seq
 due : ∀ t ∈ S.tms, S.now ≤ t.due ∧ t.due ≤ 2 ^ 62
 pl : ∀ t ∈ S.tms, t.blk ∉ un → t.lvl = gw S.now t.due ∧ t.slot = tE t.lvl t.due
 slot : ∀ i, i < 704 → S.bs i = (S.tms.filter (ky un i)).map Tmr.blk
 used : ∀ l s, l < 11 → s < 64 → (S.us l).testBit s = !(S.bs (64 * l + s)).isEmpty
 uslt : ∀ l, l < 11 → S.us l < 18446744073709551616
section
variable {un : List Nat} {t : Tmr} {S : WS}
theorem Inv.lvl (h : Inv S un) (ht : t ∈ S.tms) : gw S.now t.due < 11 := by
 have := uB h.nowle (h.due t ht).2
 omega
theorem Inv.lvl' (h : Inv S un) (ht : t ∈ S.tms) (hu : t.blk ∉ un) : t.lvl < 11 ∧ t.slot < 64 := by
 obtain ⟨h1, h2⟩ := h.pl t ht hu
 exact ⟨h1 ▸ h.lvl ht, h2 ▸ yk _ _⟩
theorem Inv.pos {S : WS} {un : List Nat} (h : Inv S un) {t : Tmr} (ht : t ∈ S.tms) (hu : t.blk ∉ un) : t.pos < 704 := by
 obtain ⟨h1, h2⟩ := h.lvl' ht hu
 unfold Tmr.pos
 omega
theorem nK (h : Inv S un) (ht : t ∈ S.tms) : (t.place S.now).lvl < 11 ∧ (t.place S.now).slot < 64 ∧ (t.place S.now).pos < 704 := by
 have h1 := h.lvl ht
 have h2 := yk (gw S.now t.due) t.due
 refine ⟨h1, h2, ?_⟩
 show 64 * gw S.now t.due + tE (gw S.now t.due) t.due < 704
 omega
theorem fW {α β : Type} {f : α → β} {a b : List α} {t : α} (h : ((a ++ t :: b).map f).Nodup) : (∀ u ∈ a, f u ≠ f t) ∧ (∀ u ∈ b, f u ≠ f t) := by
 rw [List.map_append, List.map_cons, List.nodup_append] at h
 obtain ⟨_, h2, h3⟩ := h
 refine ⟨fun u hu e => h3 (f u) (List.mem_map_of_mem hu) (f t) (by simp) e, fun u hu e => ?_⟩
 have := (List.nodup_cons.1 h2).1
 exact this (e ▸ List.mem_map_of_mem hu)
theorem ea {α β : Type} {f : α → β} : ∀ {l : List α}, (l.map f).Nodup → ∀ {u t : α}, u ∈ l → t ∈ l → f u = f t → u = t
 | [], _, _, _, h, _, _ => by cases h
 | x :: l, hn, u, t, hu, ht, e => by
  rw [List.map_cons, List.nodup_cons] at hn
  rcases List.mem_cons.1 hu with rfl | hu
  · rcases List.mem_cons.1 ht with rfl | ht
    · rfl
    · exact absurd (e ▸ List.mem_map_of_mem ht) hn.1
  · rcases List.mem_cons.1 ht with h0 | ht
    · exact absurd (h0 ▸ e ▸ List.mem_map_of_mem hu) hn.1
    · exact ea hn.2 hu ht e
theorem Inv.put {S : WS} {a b : List Tmr} {t : Tmr} {rest : List Nat} (h : Inv S (t.blk :: rest)) (hS : S.tms = a ++ t :: b) (hr : t.blk ∉ rest) (hlow : ∀ u ∈ S.tms, u.blk ∉ t.blk :: rest → u.pos = (t.place S.now).pos → u.seq < t.seq) : Inv (S.put a t b) rest := by
 have htm : t ∈ S.tms := by rw [hS]; simp
 obtain ⟨k1, k2, k3⟩ := nK h htm
 obtain ⟨ha, hb⟩ := fW (f := Tmr.blk) (t := t) (by rw [← hS]; exact h.blks)
 have hsame : ∀ i u, u.blk ≠ t.blk → ky rest i u = ky (t.blk :: rest) i u := fun i u hu => by
  simp [ky, hu]
 have hfa : ∀ i, a.filter (ky rest i) = a.filter (ky (t.blk :: rest) i) := fun i => List.filter_congr fun u hu => hsame i u (ha u hu)
 have hfb : ∀ i, b.filter (ky rest i) = b.filter (ky (t.blk :: rest) i) := fun i => List.filter_congr fun u hu => hsame i u (hb u hu)
 have ht0 : ∀ i, ky (t.blk :: rest) i t = false := fun i => by simp [ky]
 have ht1 : ∀ i, ky rest i (t.place S.now) = decide ((t.place S.now).pos = i) := fun i => by
  have : (t.place S.now).blk = t.blk := rfl
  simp [ky, this, hr]
  by_cases he : (t.place S.now).pos = i <;> simp [he]
 have hb0 : b.filter (ky (t.blk :: rest) (t.place S.now).pos) = [] := by
  rw [List.filter_eq_nil_iff]
  intro u hu hin
  simp only [ky, Bool.and_eq_true, Bool.not_eq_true', beq_iff_eq] at hin
  have hum : u ∈ S.tms := by rw [hS]; simp [hu]
  have h1 := hlow u hum (by simpa using hin.1) hin.2
  have h2 := h.seqs
  rw [hS, List.pairwise_append] at h2
  have := (List.pairwise_cons.1 h2.2.1).1 u hu
  omega
 have hold : ∀ i, i < 704 → S.bs i = (a.filter (ky (t.blk :: rest) i) ++ b.filter (ky (t.blk :: rest) i)).map Tmr.blk := fun i hi => by
  rw [h.slot i hi, hS, List.filter_append, List.filter_cons, ht0]; rfl
 have hnew : ∀ i, i < 704 → (S.put a t b).bs i = ((a ++ t.place S.now :: b).filter (ky rest i)).map Tmr.blk := fun i hi => by
  rw [List.filter_append, List.filter_cons, ht1, hfa, hfb]
  show dQ S.bs _ _ i = _
  by_cases he : (t.place S.now).pos = i
  · subst he
    rw [ck, hold _ hi, hb0]
    simp [Tmr.place]
  · rw [bM _ _ (Ne.symm he), hold i hi]
    simp [he]
 have hmem : ∀ u, u ∈ (S.put a t b).tms → (u ∈ S.tms ∧ u.blk ≠ t.blk) ∨ u = t.place S.now := fun u hu => by
  have hu' : u ∈ a ++ t.place S.now :: b := hu
  rw [List.mem_append, List.mem_cons] at hu'
  rcases hu' with h1 | h1 | h1
  · exact .inl ⟨by rw [hS]; simp [h1], ha u h1⟩
  · exact .inr h1
  · exact .inl ⟨by rw [hS]; simp [h1], hb u h1⟩
 refine ⟨h.nowle, ?_, ?_, ?_, ?_, ?_, ?_, hnew, ?_, ?_⟩
 · have := h.keys
   rw [hS] at this
   simpa [WS.put, Tmr.place] using this
 · have := h.blks
   rw [hS] at this
   simpa [WS.put, Tmr.place] using this
 · have := h.seqs
   rw [hS] at this
   show (a ++ t.place S.now :: b).Pairwise _
   rw [List.pairwise_append, List.pairwise_cons] at this ⊢
   refine ⟨this.1, ⟨this.2.1.1, this.2.1.2⟩, fun x hx y hy => ?_⟩
   rcases List.mem_cons.1 hy with rfl | hy
   · exact this.2.2 x hx t (by simp)
   · exact this.2.2 x hx y (by simp [hy])
 · intro u hu
   rcases hmem u hu with h1 | rfl
   · exact h.seqle u h1.1
   · exact h.seqle t htm
 · intro u hu
   rcases hmem u hu with h1 | rfl
   · exact h.due u h1.1
   · exact h.due t htm
 · intro u hu hun
   rcases hmem u hu with h1 | rfl
   · exact h.pl u h1.1 (by simp [h1.2, hun])
   · exact ⟨rfl, rfl⟩
 · intro l s hl hs
   show (dQ S.us _ _ l).testBit s = !(dQ S.bs _ _ (64 * l + s)).isEmpty
   have hu := h.used l s hl hs
   by_cases hlv : l = (t.place S.now).lvl
   · subst hlv
     rw [ck, Cc]
     by_cases hsl : s = (t.place S.now).slot
     · subst hsl
       rw [show 64 * (t.place S.now).lvl + (t.place S.now).slot = (t.place S.now).pos from rfl, ck]
       simp
     · rw [bM _ _ (by unfold Tmr.pos; omega), hu]
       simp [hsl]
   · rw [bM _ _ hlv, bM _ _ (by unfold Tmr.pos; omega), hu]
 · intro l hl
   show dQ S.us _ _ l < _
   by_cases hlv : l = (t.place S.now).lvl
   · subst hlv
     rw [ck]
     exact or_lt k2 (h.uslt _ hl)
   · rw [bM _ _ hlv]
     exact h.uslt l hl
theorem Inv.drop {S : WS} {a b : List Tmr} {t : Tmr} (h : Inv S []) (hS : S.tms = a ++ t :: b) : Inv (S.drop a t b) [] := by
 have htm : t ∈ S.tms := by rw [hS]; simp
 obtain ⟨k1, k2⟩ := h.lvl' htm (by simp)
 have k3 := h.pos htm (by simp)
 obtain ⟨ha, hb⟩ := fW (f := Tmr.blk) (t := t) (by rw [← hS]; exact h.blks)
 have hsub : (a ++ b).Sublist S.tms := by
  rw [hS]
  exact List.Sublist.append (List.Sublist.refl a) (List.sublist_cons_self t b)
 have ht1 : ∀ i, ky [] i t = decide (t.pos = i) := fun i => by
  simp [ky]
  by_cases he : t.pos = i <;> simp [he]
 have hold : ∀ i, i < 704 → S.bs i = ((a ++ t :: b).filter (ky [] i)).map Tmr.blk := fun i hi => by rw [h.slot i hi, hS]
 have hnew : ∀ i, i < 704 → (S.drop a t b).bs i = ((a ++ b).filter (ky [] i)).map Tmr.blk := fun i hi => by
  show dQ S.bs _ _ i = _
  by_cases he : t.pos = i
  · subst he
    rw [ck, hold _ hi, List.filter_append, List.filter_append, List.filter_cons, ht1]
    simp only [decide_true, if_true, List.map_append, List.map_cons]
    rw [List.erase_append_right, List.erase_cons_head]
    intro hm
    obtain ⟨u, hu, e⟩ := List.mem_map.1 hm
    exact ha u (List.mem_filter.1 hu).1 e
  · rw [bM _ _ (Ne.symm he), hold i hi, List.filter_append, List.filter_append, List.filter_cons, ht1]
    simp [he]
 refine ⟨h.nowle, h.keys.sublist (hsub.map _), h.blks.sublist (hsub.map _), h.seqs.sublist hsub, fun u hu => h.seqle u (hsub.subset hu), fun u hu => h.due u (hsub.subset hu), fun u hu => h.pl u (hsub.subset hu), hnew, ?_, ?_⟩
 · intro l s hl hs
   show ((if (S.bs t.pos).erase t.blk = [] then dQ S.us t.lvl (clr (S.us t.lvl) t.slot) else S.us) l).testBit s = !(dQ S.bs _ _ (64 * l + s)).isEmpty
   have hu := h.used l s hl hs
   by_cases hp : 64 * l + s = t.pos
   · have hls : l = t.lvl ∧ s = t.slot := by unfold Tmr.pos at hp; omega
     obtain ⟨rfl, rfl⟩ := hls
     rw [hp, ck]
     split
     · rename_i he
       rw [ck, ni k2 (h.uslt _ k1), he]
       simp
     · rename_i he
       rw [hu, hp]
       have hne : S.bs t.pos ≠ [] := fun h0 => by rw [h0] at he; simp at he
       rw [List.isEmpty_eq_false_iff.2 he, List.isEmpty_eq_false_iff.2 hne]
   · rw [bM _ _ hp, ← hu]
     split
     · by_cases hlv : l = t.lvl
       · subst hlv
         have : s ≠ t.slot := fun hs' => hp (by unfold Tmr.pos; omega)
         rw [ck, ni k2 (h.uslt _ k1)]
         simp [this]
       · rw [bM _ _ hlv]
     · rfl
 · intro l hl
   show (if (S.bs t.pos).erase t.blk = [] then dQ S.us t.lvl (clr (S.us t.lvl) t.slot) else S.us) l < _
   split
   · by_cases hlv : l = t.lvl
     · subst hlv; rw [ck]; exact clr_lt (h.uslt _ hl)
     · rw [bM _ _ hlv]; exact h.uslt l hl
   · exact h.uslt l hl
end
structure Fst (S : WS) (l s : Nat) : Prop where
 hl : l < 11
 hs : s < 64
 has : S.bs (64 * l + s) ≠ []
 ahead : ∀ t ∈ S.tms, l < t.lvl ∨ t.lvl = l ∧ s ≤ t.slot
section
variable {S : WS} {l s : Nat} {t : Tmr} {un : List Nat}
theorem Inv.mem_slot (h : Inv S un) (ht : t ∈ S.tms) (hu : t.blk ∉ un) : t.blk ∈ S.bs t.pos := by
 rw [h.slot _ (h.pos ht hu)]
 exact List.mem_map.2 ⟨t, List.mem_filter.2 ⟨ht, by simp [ky, hu]⟩, rfl⟩
theorem Inv.of_slot (h : Inv S un) {i b : Nat} (hi : i < 704) (hb : b ∈ S.bs i) : ∃ t ∈ S.tms, t.blk = b ∧ t.pos = i ∧ t.blk ∉ un := by
 rw [h.slot i hi] at hb
 obtain ⟨t, ht, e⟩ := List.mem_map.1 hb
 obtain ⟨h1, h2⟩ := List.mem_filter.1 ht
 simp only [ky, Bool.and_eq_true, Bool.not_eq_true', beq_iff_eq] at h2
 exact ⟨t, h1, e, h2.2, by simpa using h2.1⟩
theorem fV (hs : s < 64) (ht : t.slot < 64) (h : t.pos = 64 * l + s) : t.lvl = l ∧ t.slot = s := by
 unfold Tmr.pos at h
 omega
theorem Inv.fst (h : Inv S []) (hl : l < 11) (hs : s < 64) (hb : (S.us l).testBit s = true) (hlow : ∀ j, j < s → (S.us l).testBit j = false) (hno : ∀ k, k < l → S.us k = 0) : Fst S l s := by
 refine ⟨hl, hs, ?_, ?_⟩
 · have := h.used l s hl hs
   rw [hb] at this
   intro he
   rw [he] at this
   simp at this
 · intro t ht
   obtain ⟨k1, k2⟩ := h.lvl' ht (by simp)
   have hin := h.mem_slot ht (by simp)
   have hus := h.used t.lvl t.slot k1 k2
   have hne : (S.bs (64 * t.lvl + t.slot)).isEmpty = false := by
    have : S.bs t.pos ≠ [] := fun he => by rw [he] at hin; simp at hin
    simpa [Tmr.pos] using this
   rw [hne] at hus
   rcases Nat.lt_trichotomy t.lvl l with h1 | h1 | h1
   · rw [hno _ h1] at hus; simp at hus
   · right
     refine ⟨h1, Nat.le_of_not_lt fun h2 => ?_⟩
     rw [h1, hlow _ h2] at hus
     simp at hus
   · exact .inl h1
theorem Inv.none (h : Inv S []) (hno : ∀ k, k < 11 → S.us k = 0) : S.tms = [] := by
 apply List.eq_nil_iff_forall_not_mem.2
 intro t ht
 obtain ⟨k1, k2⟩ := h.lvl' ht (by simp)
 have hin := h.mem_slot ht (by simp)
 have hus := h.used t.lvl t.slot k1 k2
 rw [hno _ k1] at hus
 have : S.bs t.pos ≠ [] := fun he => by rw [he] at hin; simp at hin
 simp [Tmr.pos] at hus this
 exact this hus
theorem Fst.lt (h : Inv S []) (f : Fst S l s) {u : Tmr} (ht : t ∈ S.tms) (hu : u ∈ S.tms) (htp : t.pos = 64 * l + s) (hup : u.pos ≠ 64 * l + s) : t.due < u.due := by
 obtain ⟨k1, k2⟩ := h.lvl' ht (by simp)
 obtain ⟨a1, a2⟩ := fV f.hs k2 htp
 obtain ⟨p1, p2⟩ := h.pl t ht (by simp)
 obtain ⟨q1, q2⟩ := h.pl u hu (by simp)
 rcases f.ahead u hu with h1 | ⟨h1, h2⟩
 · exact w5 (h.due u hu).1 (by omega)
 · have h3 : s < u.slot := by
    rcases Nat.lt_or_ge s u.slot with h3 | h3
    · exact h3
    · exact absurd (by unfold Tmr.pos; omega) hup
   rw [q2, h1] at h3
   rw [p2, a1] at a2
   exact uA (now := S.now) (l := l) (by omega) (by omega) (by omega)
theorem Fst.start (h : Inv S []) (f : Fst S l s) (ht : t ∈ S.tms) : bx S.now l s ≤ t.due := by
 obtain ⟨b, hb⟩ := List.exists_mem_of_ne_nil _ f.has
 have hi : 64 * l + s < 704 := by have := f.hl; have := f.hs; omega
 obtain ⟨v, hv, _, hvp, _⟩ := h.of_slot hi hb
 have hvd : bx S.now l s ≤ v.due := by
  obtain ⟨k1, k2⟩ := h.lvl' hv (by simp)
  obtain ⟨a1, a2⟩ := fV f.hs k2 hvp
  obtain ⟨p1, p2⟩ := h.pl v hv (by simp)
  have := rA (now := S.now) (due := v.due) (l := l) (by omega)
  rw [p2, a1] at a2
  rw [a2] at this
  exact this
 by_cases htp : t.pos = 64 * l + s
 · obtain ⟨k1, k2⟩ := h.lvl' ht (by simp)
   obtain ⟨a1, a2⟩ := fV f.hs k2 htp
   obtain ⟨p1, p2⟩ := h.pl t ht (by simp)
   have := rA (now := S.now) (due := t.due) (l := l) (by omega)
   rw [p2, a1] at a2
   rw [a2] at this
   exact this
 · exact Nat.le_of_lt (Nat.lt_of_le_of_lt hvd (f.lt h hv ht hvp htp))
theorem Inv.to0 (h : Inv S []) (f : Fst S 0 s) : Inv { S with now := max (bx S.now 0 s) S.now } [] ∧ (∀ t ∈ S.tms, t.pos = s → t.due = max (bx S.now 0 s) S.now) := by
 have hz : ∀ t ∈ S.tms, t.pos = s → t.due = bx S.now 0 s := fun t ht hp => by
  obtain ⟨k1, k2⟩ := h.lvl' ht (by simp)
  obtain ⟨a1, a2⟩ := fV (l := 0) f.hs k2 (by omega)
  obtain ⟨p1, p2⟩ := h.pl t ht (by simp)
  have := t8 (now := S.now) (due := t.due) (by omega)
  rw [p2, a1] at a2
  rw [← a2]
  exact this.symm
 obtain ⟨b, hb⟩ := List.exists_mem_of_ne_nil _ f.has
 obtain ⟨v, hv, _, hvp, _⟩ := h.of_slot (by have := f.hs; omega) hb
 have hve := hz v hv (by omega)
 have hvd := h.due v hv
 have hm : max (bx S.now 0 s) S.now = bx S.now 0 s := by omega
 rw [hm]
 refine ⟨⟨by show bx S.now 0 s ≤ _; omega, h.keys, h.blks, h.seqs, h.seqle, fun t ht => ⟨f.start h ht, (h.due t ht).2⟩, fun t ht hu => ?_, h.slot, h.used, h.uslt⟩, hz⟩
 obtain ⟨p1, p2⟩ := h.pl t ht hu
 refine ⟨?_, p2⟩
 show t.lvl = gw (bx S.now 0 s) t.due
 by_cases htp : t.pos = s
 · have e1 := hz t ht htp
   obtain ⟨k1, k2⟩ := h.lvl' ht (by simp)
   obtain ⟨a1, a2⟩ := fV (l := 0) f.hs k2 (by omega)
   rw [← e1]
   simp [gw, a1]
 · rw [mz f.hs ?_, p1]
   rcases f.ahead t ht with h1 | ⟨h1, h2⟩
   · left; omega
   · right
     refine ⟨by omega, fun e => htp ?_⟩
     have e0 : t.slot = s := by rw [p2, h1]; exact e
     unfold Tmr.pos
     omega
theorem Inv.toL (h : Inv S []) (hl : 1 ≤ l) (f : Fst S l s) : max (bx S.now l s) S.now = bx S.now l s ∧ Inv ({ S with now := bx S.now l s }.clear l s) (S.bs (64 * l + s)) := by
 have hi : 64 * l + s < 704 := by have := f.hl; have := f.hs; omega
 obtain ⟨b, hb⟩ := List.exists_mem_of_ne_nil _ f.has
 obtain ⟨v, hv, _, hvp, _⟩ := h.of_slot hi hb
 have hst : S.now < bx S.now l s := by
  obtain ⟨k1, k2⟩ := h.lvl' hv (by simp)
  obtain ⟨a1, a2⟩ := fV f.hs k2 hvp
  obtain ⟨p1, p2⟩ := h.pl v hv (by simp)
  have := qT (now := S.now) (due := v.due) hl (by omega) (h.due v hv).1
  rw [p2, a1] at a2
  rw [a2] at this
  exact this
 have hin : ∀ t ∈ S.tms, t.blk ∉ S.bs (64 * l + s) → t.pos ≠ 64 * l + s := fun t ht hn hp => hn (hp ▸ h.mem_slot ht (by simp))
 have hout : ∀ t ∈ S.tms, t.pos ≠ 64 * l + s → t.blk ∉ S.bs (64 * l + s) := fun t ht hp hb => by
  obtain ⟨u, hu, e, hup, _⟩ := h.of_slot hi hb
  have : u = t := ea h.blks hu ht e
  exact hp (this ▸ hup)
 refine ⟨by omega, ?_⟩
 refine ⟨?_, h.keys, h.blks, h.seqs, h.seqle, fun t ht => ⟨f.start h ht, (h.due t ht).2⟩, fun t ht hu => ?_, ?_, ?_, ?_⟩
 · show bx S.now l s ≤ _
   exact Nat.le_trans (f.start h hv) (h.due v hv).2
 · obtain ⟨p1, p2⟩ := h.pl t ht (by simp)
   refine ⟨?_, p2⟩
   show t.lvl = gw (bx S.now l s) t.due
   have htp := hin t ht hu
   rw [mz f.hs ?_, p1]
   rcases f.ahead t ht with h1 | ⟨h1, h2⟩
   · left; omega
   · right
     refine ⟨by omega, fun e => htp ?_⟩
     have e0 : t.slot = s := by rw [p2, h1]; exact e
     unfold Tmr.pos
     omega
 · intro i hi'
   show dQ S.bs _ _ i = ((S.tms.filter (ky (S.bs (64 * l + s)) i)).map Tmr.blk)
   by_cases he : i = 64 * l + s
   · subst he
     rw [ck]
     symm
     rw [List.map_eq_nil_iff, List.filter_eq_nil_iff]
     intro t ht hs'
     simp only [ky, Bool.and_eq_true, Bool.not_eq_true', beq_iff_eq] at hs'
     exact hin t ht (by simpa using hs'.1) hs'.2
   · rw [bM _ _ he, h.slot i hi']
     congr 1
     refine List.filter_congr fun t ht => ?_
     simp only [ky]
     by_cases hp : t.pos = i
     · have h1 := hout t ht (by omega)
       simp [h1]
     · simp [hp]
 · intro k j hk hj
   show (dQ S.us _ _ k).testBit j = !(dQ S.bs _ _ (64 * k + j)).isEmpty
   have hu := h.used k j hk hj
   by_cases hp : 64 * k + j = 64 * l + s
   · have : k = l ∧ j = s := by have := f.hs; omega
     obtain ⟨rfl, rfl⟩ := this
     rw [ck, ck, ni f.hs (h.uslt _ f.hl)]
     simp
   · rw [bM _ _ hp, ← hu]
     by_cases hkl : k = l
     · subst hkl
       have : j ≠ s := fun e => hp (by omega)
       rw [ck, ni f.hs (h.uslt _ f.hl)]
       simp [this]
     · rw [bM _ _ hkl]
 · intro k hk
   show dQ S.us _ _ k < _
   by_cases hkl : k = l
   · subst hkl
     rw [ck]; exact clr_lt (h.uslt _ hk)
   · rw [bM _ _ hkl]; exact h.uslt k hk
theorem Inv.stay (h : Inv S []) {to : Nat} (h1 : S.now ≤ to) (h2 : to ≤ 2 ^ 62) (hf : S.tms = [] ∨ ∃ l s, Fst S l s ∧ to < bx S.now l s) : Inv { S with now := to } [] ∧ ∀ t ∈ S.tms, to < t.due := by
 rcases hf with hf | ⟨l, s, f, hlt⟩
 · refine ⟨⟨h2, h.keys, h.blks, h.seqs, h.seqle, fun t ht => ?_, fun t ht => ?_, h.slot, h.used, h.uslt⟩, fun t ht => ?_⟩
   · have : t ∈ S.tms := ht
     rw [hf] at this; cases this
   · have : t ∈ S.tms := ht
     rw [hf] at this; cases this
   · rw [hf] at ht; cases ht
 · have hall : ∀ t ∈ S.tms, to < t.due := fun t ht => Nat.lt_of_lt_of_le hlt (f.start h ht)
   refine ⟨⟨h2, h.keys, h.blks, h.seqs, h.seqle, fun t ht => ⟨Nat.le_of_lt (hall t ht), (h.due t ht).2⟩, fun t ht hu => ?_, h.slot, h.used, h.uslt⟩, hall⟩
   obtain ⟨p1, p2⟩ := h.pl t ht hu
   refine ⟨?_, p2⟩
   show t.lvl = gw to t.due
   rw [yN f.hs h1 hlt ?_, p1]
   rcases f.ahead t ht with h3 | ⟨h3, h4⟩
   · left; omega
   · right
     refine ⟨by omega, ?_⟩
     rw [p2, h3] at h4
     exact h4
def kd (t : Tmr) : Pl × Nat := (t.key, t.due)
end
structure Casc (S : WS) (l : Nat) (rest : List Nat) : Prop where
 inv : Inv S rest
 nd : rest.Nodup
 mem : ∀ x ∈ rest, ∃ t ∈ S.tms, t.blk = x
 ord : rest.Pairwise fun x y => ∀ t ∈ S.tms, ∀ u ∈ S.tms, t.blk = x → u.blk = y → t.seq < u.seq
 low : ∀ t ∈ S.tms, t.blk ∈ rest → gw S.now t.due < l
 placed : ∀ u ∈ S.tms, u.blk ∉ rest → u.lvl < l → ∀ t ∈ S.tms, t.blk ∈ rest → u.seq < t.seq
 some : ∃ t ∈ S.tms, t.blk ∈ rest ∨ t.lvl < l
theorem Casc.begin {S : WS} (h : Inv S []) {l s : Nat} (hl : 1 ≤ l) (f : Fst S l s) : Casc ({ S with now := bx S.now l s }.clear l s) l (S.bs (64 * l + s)) := by
 have hi : 64 * l + s < 704 := by have := f.hl; have := f.hs; omega
 have hinv := (h.toL hl f).2
 have hbs := h.slot _ hi
 have hlev : ∀ t ∈ S.tms, t.pos = 64 * l + s → gw (bx S.now l s) t.due < l := fun t ht hp => by
  obtain ⟨k1, k2⟩ := h.lvl' ht (by simp)
  obtain ⟨a1, a2⟩ := fV f.hs k2 hp
  obtain ⟨p1, p2⟩ := h.pl t ht (by simp)
  have := tf (now := S.now) (due := t.due) hl (by omega)
  rw [p2, a1] at a2
  rw [a2] at this
  exact this
 have hpos : ∀ t ∈ S.tms, t.blk ∈ S.bs (64 * l + s) → t.pos = 64 * l + s := fun t ht hb => by
  obtain ⟨u, hu, e, hup, _⟩ := h.of_slot hi hb
  exact ea h.blks hu ht e ▸ hup
 obtain ⟨b, hb⟩ := List.exists_mem_of_ne_nil _ f.has
 obtain ⟨v, hv, hvb, hvp, _⟩ := h.of_slot hi hb
 refine ⟨hinv, ?_, ?_, ?_, fun t ht hb => hlev t ht (hpos t ht hb), ?_, ⟨v, hv, .inl (hvb ▸ hb)⟩⟩
 · rw [hbs]
   exact h.blks.sublist (List.filter_sublist.map _)
 · intro x hx
   obtain ⟨t, ht, e, _⟩ := h.of_slot hi hx
   exact ⟨t, ht, e⟩
 · rw [hbs, List.pairwise_map]
   refine (h.seqs.sublist List.filter_sublist).imp_of_mem ?_
   intro x y hx hy hxy t ht u hu e1 e2
   have h1 := ea h.blks ht (List.mem_filter.1 hx).1 e1
   have h2 := ea h.blks hu (List.mem_filter.1 hy).1 e2
   rw [h1, h2]
   exact hxy
 · intro u hu _ hul t ht _
   have := f.ahead u hu
   omega
theorem Casc.step {S : WS} {l x : Nat} {rest : List Nat} (h : Casc S l (x :: rest)) : ∃ a t b, S.tms = a ++ t :: b ∧ t.blk = x ∧ (∀ u ∈ S.tms, u.blk ∉ t.blk :: rest → u.pos = (t.place S.now).pos → u.seq < t.seq) ∧ Casc (S.put a t b) l rest := by
 obtain ⟨t, ht, rfl⟩ := h.mem x (by simp)
 obtain ⟨a, b, hS⟩ := List.append_of_mem ht
 obtain ⟨hn1, hn2⟩ := List.nodup_cons.1 h.nd
 obtain ⟨k1, k2, k3⟩ := nK h.inv ht
 have hlow : ∀ u ∈ S.tms, u.blk ∉ t.blk :: rest → u.pos = (t.place S.now).pos → u.seq < t.seq := fun u hu hun hp => by
  obtain ⟨q1, q2⟩ := h.inv.lvl' hu hun
  have hlv : u.lvl = (t.place S.now).lvl := by
   unfold Tmr.pos at hp
   omega
  have : (t.place S.now).lvl < l := h.low t ht (by simp)
  exact h.placed u hu hun (by omega) t ht (by simp)
 obtain ⟨ha, hb⟩ := fW (f := Tmr.blk) (t := t) (by rw [← hS]; exact h.inv.blks)
 have hmem : ∀ u, u ∈ (S.put a t b).tms → (u ∈ S.tms ∧ u.blk ≠ t.blk) ∨ u = t.place S.now := fun u hu => by
  have hu' : u ∈ a ++ t.place S.now :: b := hu
  rw [List.mem_append, List.mem_cons] at hu'
  rcases hu' with h1 | h1 | h1
  · exact .inl ⟨by rw [hS]; simp [h1], ha u h1⟩
  · exact .inr h1
  · exact .inl ⟨by rw [hS]; simp [h1], hb u h1⟩
 have hput : t.place S.now ∈ (S.put a t b).tms := by
  show _ ∈ a ++ t.place S.now :: b
  simp
 have hold : ∀ u ∈ (S.put a t b).tms, u.blk ∈ rest → u ∈ S.tms := fun u hu hr => by
  rcases hmem u hu with h1 | rfl
  · exact h1.1
  · exact absurd hr hn1
 refine ⟨a, t, b, hS, rfl, hlow, h.inv.put hS hn1 hlow, hn2, ?_, ?_, fun u hu hr => h.low u (hold u hu hr) (by simp [hr]), ?_, ⟨_, hput, .inr (h.low t ht (by simp))⟩⟩
 · intro y hy
   obtain ⟨u, hu, e⟩ := h.mem y (by simp [hy])
   have hu' := hu
   rw [hS] at hu'
   refine ⟨u, ?_, e⟩
   show u ∈ a ++ t.place S.now :: b
   rcases List.mem_append.1 hu' with h1 | h1
   · simp [h1]
   · rcases List.mem_cons.1 h1 with rfl | h1
     · exact absurd (e ▸ hy) hn1
     · simp [h1]
 · refine (List.pairwise_cons.1 h.ord).2.imp_of_mem ?_
   intro y z hy hz hyz u hu v hv e1 e2
   exact hyz u (hold u hu (e1 ▸ hy)) v (hold v hv (e2 ▸ hz)) e1 e2
 · intro u hu hun hul v hv hvr
   have hv' := hold v hv hvr
   rcases hmem u hu with h1 | rfl
   · exact h.placed u h1.1 (by simp [h1.2, hun]) hul v hv' (by simp [hvr])
   · exact (List.pairwise_cons.1 h.ord).1 v.blk hvr t ht v hv' rfl rfl
def IsMin (L : List (Pl × Nat)) (x : Pl × Nat) (L' : List (Pl × Nat)) : Prop := ∃ a b, L = a ++ x :: b ∧ L' = a ++ b ∧ (∀ y ∈ a, x.2 < y.2) ∧ ∀ y ∈ b, x.2 ≤ y.2
theorem Fst.min {S : WS} (h : Inv S []) {l s : Nat} (f : Fst S l s) {a b : List Tmr} {t : Tmr} (hS : S.tms = a ++ t :: b) (htp : t.pos = 64 * l + s) (ha : ∀ u ∈ a, u.pos = 64 * l + s → t.due < u.due) (hb : ∀ u ∈ b, u.pos = 64 * l + s → t.due ≤ u.due) : IsMin (S.tms.map kd) (kd t) ((a ++ b).map kd) := by
 have htm : t ∈ S.tms := by rw [hS]; simp
 refine ⟨a.map kd, b.map kd, by rw [hS]; simp, by simp, ?_, ?_⟩
 · intro y hy
   obtain ⟨u, hu, rfl⟩ := List.mem_map.1 hy
   by_cases hp : u.pos = 64 * l + s
   · exact ha u hu hp
   · exact f.lt h htm (by rw [hS]; simp [hu]) htp hp
 · intro y hy
   obtain ⟨u, hu, rfl⟩ := List.mem_map.1 hy
   by_cases hp : u.pos = 64 * l + s
   · exact hb u hu hp
   · exact Nat.le_of_lt (f.lt h htm (by rw [hS]; simp [hu]) htp hp)
theorem Inv.head0 {S : WS} (h : Inv S []) {s : Nat} (f : Fst S 0 s) : ∃ a t b, S.tms = a ++ t :: b ∧ (S.bs (64 * 0 + s))[0]? = some t.blk ∧ t.due = max (bx S.now 0 s) S.now ∧ IsMin (S.tms.map kd) (kd t) ((a ++ b).map kd) := by
 have hi : 64 * 0 + s < 704 := by have := f.hs; omega
 have hbs := h.slot _ hi
 have hz := (h.to0 f).2
 cases hf : S.tms.filter (ky [] (64 * 0 + s)) with
 | nil =>
  rw [hf] at hbs
  exact absurd hbs f.has
 | cons t r =>
  obtain ⟨a, b, hS, ha, ht, hb⟩ := List.filter_eq_cons_iff.1 hf
  have htp : t.pos = 64 * 0 + s := by simpa [ky] using ht
  have htm : t ∈ S.tms := by rw [hS]; simp
  have hdue := hz t htm (by omega)
  refine ⟨a, t, b, hS, by rw [hbs, hf]; rfl, hdue, f.min h hS htp (fun u hu hp => ?_) fun u hu hp => ?_⟩
  · have := ha u hu
    simp [ky, hp] at this
  · have := hz u (by rw [hS]; simp [hu]) (by omega)
    omega
end FK

namespace FK
abbrev KD := Pl × Nat
section
variable {L L1 : List KD}
theorem IsMin.unique {x y : KD} {L2 : List KD} (h : IsMin L x L1) (k : IsMin L y L2) : x = y ∧ L1 = L2 := by
 obtain ⟨a, b, e1, rfl, ha, hb⟩ := h
 obtain ⟨a', b', e2, rfl, ha', hb'⟩ := k
 rw [e1] at e2
 rcases List.append_eq_append_iff.1 e2 with ⟨as, e3, e4⟩ | ⟨as, e3, e4⟩
 · cases as with
   | nil =>
    simp at e3 e4
    obtain ⟨rfl, rfl⟩ := e4
    subst e3
    exact ⟨rfl, rfl⟩
   | cons z as =>
    simp only [List.cons_append, List.cons.injEq] at e4
    obtain ⟨rfl, rfl⟩ := e4
    have h1 := ha' x (by rw [e3]; simp)
    have h2 := hb y (by simp)
    omega
 · cases as with
   | nil =>
    simp at e3 e4
    obtain ⟨rfl, rfl⟩ := e4
    subst e3
    exact ⟨rfl, rfl⟩
   | cons z as =>
    simp only [List.cons_append, List.cons.injEq] at e4
    obtain ⟨rfl, rfl⟩ := e4
    have h1 := ha y (by rw [e3]; simp)
    have h2 := hb' x (by simp)
    omega
theorem IsMin.perm {x : KD} (h : IsMin L x L1) : L.Perm (x :: L1) := by
 obtain ⟨a, b, rfl, rfl, _, _⟩ := h
 exact List.perm_middle
theorem IsMin.le {x : KD} (h : IsMin L x L1) : ∀ y ∈ L, x.2 ≤ y.2 := by
 obtain ⟨a, b, rfl, rfl, h1, h2⟩ := h
 intro y hy
 rcases List.mem_append.1 hy with hy | hy
 · exact Nat.le_of_lt (h1 y hy)
 · rcases List.mem_cons.1 hy with rfl | hy
   · exact Nat.le_refl _
   · exact h2 y hy
theorem IsMin.len {x : KD} (h : IsMin L x L1) : L.length = L1.length + 1 := by
 have := h.perm.length_eq
 simpa using this
theorem IsMin.mem {x : KD} (h : IsMin L x L1) : x ∈ L := h.perm.mem_iff.2 (by simp)
end
inductive Pops (up : Nat) : List KD → List KD → List KD → Prop where
 | done {L : List KD} : (∀ y ∈ L, up < y.2) → Pops up L [] L
 | one {L L1 L2 o : List KD} {x : KD} : IsMin L x L1 → x.2 ≤ up → Pops up L1 o L2 → Pops up L (x :: o) L2
def Till (up : Nat) (L0 o L : List KD) : Prop := ∀ o' L', Pops up L o' L' → Pops up L0 (o ++ o') L'
theorem Till.refl (up : Nat) (L : List KD) : Till up L [] L := fun _ _ h => h
theorem Pops.perm {up : Nat} {L o L' : List KD} (h : Pops up L o L') : L.Perm (o ++ L') := by
 induction h with
 | done _ => exact List.Perm.refl _
 | one hm _ _ ih => exact hm.perm.trans (List.Perm.cons _ ih)
theorem Pops.len {up : Nat} {L o L' : List KD} (h : Pops up L o L') : L.length = o.length + L'.length := by
 have := h.perm.length_eq
 simpa using this
def WS.add (S : WS) (t : Tmr) : WS := { S with seq := S.seq + 1, tms := S.tms ++ [t] }
theorem Inv.add {S : WS} (h : Inv S []) {t : Tmr} (hk : t.key ∉ S.tms.map Tmr.key) (hb : t.blk ∉ S.tms.map Tmr.blk) (hs : t.seq = S.seq + 1) (hd : S.now ≤ t.due ∧ t.due ≤ 2 ^ 62) : Inv (S.add t) [t.blk] := by
 have hmem : ∀ u, u ∈ (S.add t).tms → u ∈ S.tms ∨ u = t := fun u hu => by
  have : u ∈ S.tms ++ [t] := hu
  simpa using this
 refine ⟨h.nowle, ?_, ?_, ?_, ?_, ?_, ?_, ?_, h.used, h.uslt⟩
 · show ((S.tms ++ [t]).map Tmr.key).Nodup
   rw [List.map_append, List.nodup_append]
   refine ⟨h.keys, by simp, fun x hx y hy e => ?_⟩
   simp at hy
   exact hk (by rw [← hy, ← e]; exact hx)
 · show ((S.tms ++ [t]).map Tmr.blk).Nodup
   rw [List.map_append, List.nodup_append]
   refine ⟨h.blks, by simp, fun x hx y hy e => ?_⟩
   simp at hy
   exact hb (by rw [← hy, ← e]; exact hx)
 · show (S.tms ++ [t]).Pairwise _
   rw [List.pairwise_append]
   refine ⟨h.seqs, by simp, fun x hx y hy => ?_⟩
   simp at hy
   subst hy
   have := h.seqle x hx
   omega
 · intro u hu
   show u.seq ≤ S.seq + 1
   rcases hmem u hu with hu | rfl
   · have := h.seqle u hu; omega
   · omega
 · intro u hu
   rcases hmem u hu with hu | rfl
   · exact h.due u hu
   · exact hd
 · intro u hu hun
   rcases hmem u hu with hu | rfl
   · exact h.pl u hu (by simp)
   · simp at hun
 · intro i hi
   show S.bs i = ((S.tms ++ [t]).filter (ky [t.blk] i)).map Tmr.blk
   rw [h.slot i hi, List.filter_append]
   have h1 : [t].filter (ky [t.blk] i) = [] := by simp [ky]
   rw [h1, List.append_nil]
   congr 1
   refine List.filter_congr fun u hu => ?_
   have : u.blk ≠ t.blk := fun e => hb (e ▸ List.mem_map_of_mem hu)
   simp [ky, this]
theorem Inv.add_low {S : WS} (h : Inv S []) {t : Tmr} (hs : t.seq = S.seq + 1) : ∀ u ∈ (S.add t).tms, u.blk ∉ [t.blk] → u.seq < t.seq := fun u hu hun => by
 have : u ∈ S.tms ++ [t] := hu
 rcases List.mem_append.1 this with hu | hu
 · have := h.seqle u hu; omega
 · simp at hu; subst hu; simp at hun
def Best (F : List Tmr) (i j : Nat) (t : Tmr) : Prop := F[j]? = some t ∧ j < i ∧ (∀ k u, k < j → F[k]? = some u → t.due < u.due) ∧ ∀ k u, j < k → k < i → F[k]? = some u → t.due ≤ u.due
theorem Best.lt {F : List Tmr} {i j : Nat} {t u : Tmr} (h : Best F i j t) (hs : F.Pairwise fun a b => a.seq < b.seq) (hu : F[i]? = some u) (hl : u.due < t.due ∨ u.due = t.due ∧ u.seq < t.seq) : Best F (i + 1) i u := by
 obtain ⟨h1, h2, h3, h4⟩ := h
 have hlt : u.due < t.due := by
  rcases hl with hl | ⟨_, hl⟩
  · exact hl
  · obtain ⟨hj, ej⟩ := List.getElem?_eq_some_iff.1 h1
    obtain ⟨hi, ei⟩ := List.getElem?_eq_some_iff.1 hu
    have := List.pairwise_iff_getElem.1 hs j i hj hi h2
    rw [ej, ei] at this
    omega
 refine ⟨hu, by omega, fun k v hk hv => ?_, fun k v h5 h6 => by omega⟩
 rcases Nat.lt_trichotomy k j with h | h | h
 · have := h3 k v h hv; omega
 · subst h
   rw [h1] at hv
   injection hv with hv
   subst hv
   exact hlt
 · have := h4 k v h hk hv; omega
end FK

namespace FK
structure RingOk (N f : Nat) (q : List Pl) (rg : Nat → Pl) : Prop where
 len : q.length ≤ N
 big : N ≤ 2000
 fst : f < N ∨ N = 0 ∧ f = 0
 item : ∀ k p, q[k]? = some p → rg ((f + k) % N) = p
section
variable {rg : Nat → Pl} {q : List Pl} {N f : Nat}
theorem RingOk.pos (h : RingOk N f q rg) (hq : 0 < q.length) : 0 < N ∧ f < N := by
 have := h.len
 rcases h.fst with h | h <;> omega
theorem RingOk.push (h : RingOk N f q rg) (hl : q.length < N) (p : Pl) : RingOk N f (q ++ [p]) (dQ rg ((f + q.length) % N) p) := by
 refine ⟨by simp; omega, h.big, h.fst, fun k u hu => ?_⟩
 rcases Nat.lt_or_ge k q.length with hk | hk
 · rw [List.getElem?_append_left hk] at hu
   have h1 := h.item k u hu
   rw [bM, h1]
   intro e
   have hf : f < N := by rcases h.fst with h | h <;> omega
   rcases Nat.lt_or_ge (f + k) N with a | a <;> rcases Nat.lt_or_ge (f + q.length) N with b | b
   · rw [Nat.mod_eq_of_lt a, Nat.mod_eq_of_lt b] at e; omega
   · rw [Nat.mod_eq_of_lt a, Nat.mod_eq_sub_mod b, Nat.mod_eq_of_lt (by omega)] at e; omega
   · rw [Nat.mod_eq_of_lt b, Nat.mod_eq_sub_mod a, Nat.mod_eq_of_lt (by omega)] at e; omega
   · rw [Nat.mod_eq_sub_mod a, Nat.mod_eq_sub_mod b, Nat.mod_eq_of_lt (by omega), Nat.mod_eq_of_lt (by omega)] at e; omega
 · rw [List.getElem?_append_right hk] at hu
   have hk0 : k - q.length = 0 := by
    have := (List.getElem?_eq_some_iff.1 hu).1
    simp at this; omega
   have : k = q.length := by omega
   subst this
   rw [ck]
   simp at hu
   exact hu
theorem RingOk.pop {p z : Pl} (h : RingOk N f (p :: q) rg) : rg f = p ∧ RingOk N ((f + 1) % N) q (dQ rg f z) := by
 obtain ⟨hN, hf⟩ := h.pos (by simp)
 have hl := h.len
 simp only [List.length_cons] at hl
 have h0 := h.item 0 p rfl
 rw [Nat.add_zero, Nat.mod_eq_of_lt hf] at h0
 refine ⟨h0, by omega, h.big, .inl (Nat.mod_lt _ hN), fun k u hu => ?_⟩
 have hk := (List.getElem?_eq_some_iff.1 hu).1
 have h1 := h.item (k + 1) u (by simpa using hu)
 have e : ((f + 1) % N + k) % N = (f + (k + 1)) % N := by rw [Nat.add_mod ((f + 1) % N), Nat.mod_mod, ← Nat.add_mod]; congr 1; omega
 rw [e, bM, h1]
 intro e
 rcases Nat.lt_or_ge (f + (k + 1)) N with a | a
 · rw [Nat.mod_eq_of_lt a] at e; omega
 · rw [Nat.mod_eq_sub_mod a, Nat.mod_eq_of_lt (by omega)] at e; omega
def lh (N f : Nat) (rg : Nat → Pl) : Nat → Pl := fun i => if i < N - f then rg (f + i) else if i < N then rg (i - (N - f)) else ⟨0, 0, 0⟩
theorem RingOk.grow (h : RingOk N f q rg) (hq : q.length = N) (hN : N ≤ 1000) : RingOk (max 4 (2 * N)) 0 q (lh N f rg) := by
 refine ⟨by omega, by omega, .inl (by omega), fun k p hk => ?_⟩
 have hlt := (List.getElem?_eq_some_iff.1 hk).1
 have h1 := h.item k p hk
 have hf : f < N := (h.pos (by omega)).2
 rw [Nat.zero_add, Nat.mod_eq_of_lt (by omega)]
 unfold lh
 split
 · rw [Nat.mod_eq_of_lt (by omega)] at h1
   exact h1
 · rw [if_pos (by omega)]
   rw [Nat.mod_eq_sub_mod (by omega), Nat.mod_eq_of_lt (by omega)] at h1
   rw [← h1]
   congr 1
   omega
end
end FK

namespace FK
structure Sp where
 state : Int
 CE : Int
 token : Nat
structure Rn where
 fl : Flow
 state : Int
 CF : List Sp
 ended : Nat
structure En where
 now : Nat
 seed : Nat
 CD : Nat
 CC : Nat
 ends : Nat
 runs : List (Nat × Rn)
 CI : List (Nat × Pl)
 CH : List Pl
 tms : List KD
 sets : Nat
def En.getR (S : En) (id : Nat) : Option Rn := (S.runs.find? (·.1 == id)).map (·.2)
def En.setR (S : En) (id : Nat) (R : Rn) : En := { S with runs := S.runs.map fun r => if r.1 == id then (r.1, R) else r }
def Rn.setS (R : Rn) (k : Nat) (s : Sp) : Rn := { R with CF := R.CF.set k s }
def En.later (S : En) (n : Nat) : Nat := min (S.now + n) 4611686018427387904
def En.setT (S : En) (p : Pl) (a : Nat) : En := { S with tms := S.tms.filter (fun x => x.1 != p) ++ [(p, a)], sets := S.sets + 1 }
def En.unset (S : En) (p : Pl) : En := { S with tms := S.tms.filter fun x => x.1 != p }
def En.unrun (S : En) (id : Nat) : En := { S with runs := S.runs.eraseP (·.1 == id) }
def En.onS (S : En) (id k : Nat) (g : Sp → Sp) : En := match S.getR id with
 | some R => match R.CF[k]? with
  | some s => S.setR id (R.setS k (g s))
  | none => S
 | none => S
def En.ready (S : En) (id k : Nat) : En := { S.onS id k (fun s => { s with state := 2 }) with CH := S.CH ++ [⟨id, (k : Int), 0⟩] }
def bS (l : List Sp) (k : Nat) (x : Int) : Bool := match l[k]? with | some s => s.state == x | none => false
def dv (R : Rn) (k : Nat) : Bool := bS R.CF k 1 && (match R.fl.CG[k]? with | some n => n.after.all fun u => bS R.CF u.toNat 5 | none => false)
def En.wakeK (id : Nat) (S : En) (k : Nat) : En := match S.getR id with
 | some R => if dv R k then S.ready id k else S
 | none => S
def En.wakeN (S : En) (id n : Nat) : En := (List.range n).foldl (En.wakeK id) S
def En.wake (S : En) (id : Nat) : En := match S.getR id with | some R => S.wakeN id R.fl.CG.length | none => S
def En.life (S : En) (p : Pl) (n : Node) : En := if 0 < n.beat then S.setT ⟨p.run, p.node, 2⟩ (S.later n.beat.toNat) else S
def En.leave (S : En) (id k : Nat) : En := match S.getR id with
 | some R => match R.CF[k]? with
  | some s => (({ S with CI := S.CI.eraseP (·.1 == s.token) }.setR id (R.setS k { s with token := 0 })).unset ⟨id, (k : Int), 1⟩).unset ⟨id, (k : Int), 2⟩
  | none => S
 | none => S
def nk (id : Nat) (S : En) (k : Nat) : En := (S.leave id k).onS id k fun s => if s.state = 5 ∨ s.state = 6 then s else { s with state := 7 }
def En.endN (S : En) (id n : Nat) : En := (List.range n).foldl (nk id) S
def En.finish (S : En) (id : Nat) (st : Int) : En := match S.getR id with
 | some R =>
  let T := ({ S with ends := S.ends + 1 }.setR id { R with state := st, ended := S.ends + 1 }).unset ⟨id, -1, 0⟩
  let U := T.endN id R.CF.length
  { U with CH := U.CH.filter fun p => p.run != id }
 | none => S
def over (s : Sp) : Bool := s.state == 5 || s.state == 6 || s.state == 7
def En.settle (S : En) (id : Nat) : En := match S.getR id with
 | some R => if R.CF.all over then S.finish id (if R.CF.all fun s => s.state == 5 then 2 else 3) else S
 | none => S
def En.complete (S : En) (tok : Nat) : En := match (S.CI.find? (·.1 == tok)).map (·.2) with
 | some p => (((S.leave p.run p.node.toNat).onS p.run p.node.toNat fun s => { s with state := 5 }).wake p.run).settle p.run
 | none => S
def bY (ns : List Node) (l : List Sp) (k : Nat) : List Sp := match l[k]?, ns[k]? with
 | some s, some n => if s.state = 1 ∧ (n.after.any fun u => bS l u.toNat 6 || bS l u.toNat 7) then l.set k { s with state := 7 } else l
 | _, _ => l
end FK

namespace FK
section
variable {id k : Nat} {S : En} {R : Rn} {l : List Sp} {s : Sp}
theorem rN {l : List (Nat × Rn)} (k : Nat) : (l.map fun r => if r.1 == id then (r.1, R) else r).find? (·.1 == k) = (l.find? (·.1 == k)).map fun r => if r.1 == id then (r.1, R) else r := by
 induction l with
 | nil => rfl
 | cons x l ih =>
  simp only [List.map_cons, List.find?_cons]
  have h : (if x.1 == id then (x.1, R) else x).1 = x.1 := by split <;> rfl
  rw [h]
  cases x.1 == k with
  | true => rfl
  | false => exact ih
theorem ch {R' : Rn} (h : S.getR id = some R) : (S.setR id R').getR id = some R' := by
 unfold En.getR En.setR at *
 simp only
 rw [rN]
 cases hf : S.runs.find? (·.1 == id) with
 | none => rw [hf] at h; cases h
 | some x =>
  have : x.1 = id := by simpa using List.find?_some hf
  simp [this]
theorem d7 {R' : Rn} (h : k ≠ id) : (S.setR id R').getR k = S.getR k := by
 unfold En.getR En.setR
 simp only
 rw [rN]
 cases hf : S.runs.find? (·.1 == k) with
 | none => rfl
 | some x =>
  have h1 : x.1 = k := by simpa using List.find?_some hf
  have h2 : ¬ x.1 = id := by rw [h1]; exact h
  simp [h2]
theorem ed {A B : Rn} : (S.setR id A).setR id B = S.setR id B := by
 unfold En.setR
 simp only [List.map_map]
 congr 1
 refine List.map_congr_left fun x _ => ?_
 simp only [Function.comp_apply]
 by_cases h : x.1 = id <;> simp [h]
theorem nw (g : Sp → Sp) (hR : S.getR id = some R) (hs : R.CF[k]? = some s) : S.onS id k g = S.setR id (R.setS k (g s)) := by
 unfold En.onS
 rw [hR]
 simp only [hs]
theorem hZ (hR : S.getR id = some R) (hs : R.CF[k]? = some s) : S.ready id k = { S.setR id (R.setS k { s with state := 2 }) with CH := S.CH ++ [⟨id, (k : Int), 0⟩] } := by
 unfold En.ready
 rw [nw _ hR hs]
theorem dw {x : Int} (h : l[k]? = some s) : bS l k x = (s.state == x) := by
 unfold bS
 rw [h]
theorem qB {x : Int} (h : bS l k x = true) : ∃ s, l[k]? = some s ∧ s.state = x := by
 unfold bS at h
 cases hl : l[k]? with
 | none => rw [hl] at h; cases h
 | some s => rw [hl] at h; exact ⟨s, rfl, by simpa using h⟩
end
structure SameR (R R' : Rn) : Prop where
 fl : R'.fl = R.fl
 state : R'.state = R.state
 ended : R'.ended = R.ended
 len : R'.CF.length = R.CF.length
section
variable {id k : Nat} {R : Rn} {S : En} {s : Sp}
theorem SameR.refl (R : Rn) : SameR R R := ⟨rfl, rfl, rfl, rfl⟩
theorem SameR.trans {A B C : Rn} (h : SameR A B) (k : SameR B C) : SameR A C := ⟨k.fl.trans h.fl, k.state.trans h.state, k.ended.trans h.ended, k.len.trans h.len⟩
theorem SameR.setS (R : Rn) (k : Nat) (s : Sp) : SameR R (R.setS k s) := ⟨rfl, rfl, rfl, by simp [Rn.setS]⟩
theorem yG (hR : S.getR id = some R) : ∃ R', (En.wakeK id S k).getR id = some R' ∧ SameR R R' ∧ (En.wakeK id S k).CH.length ≤ S.CH.length + 1 := by
 unfold En.wakeK
 rw [hR]
 simp only
 split
 · rename_i hf
   have h1 : bS R.CF k 1 = true := by
    unfold dv at hf
    simp only [Bool.and_eq_true] at hf
    exact hf.1
   obtain ⟨s, hs, _⟩ := qB h1
   rw [hZ hR hs]
   refine ⟨R.setS k { s with state := 2 }, ch hR, SameR.setS _ _ _, ?_⟩
   simp
 · exact ⟨R, hR, SameR.refl R, Nat.le_succ _⟩
theorem kj {nd : Node} (hs : R.CF[k]? = some s) (hn : R.fl.CG[k]? = some nd) : dv R k = (s.state == 1 && nd.after.all fun u => bS R.CF u.toNat 5) := by
 unfold dv
 rw [dw hs, hn]
theorem jK (hR : S.getR id = some R) : En.wakeK id S k = if dv R k then S.ready id k else S := by
 unfold En.wakeK
 rw [hR]
theorem fi (S : En) (id n : Nat) : S.wakeN id (n + 1) = En.wakeK id (S.wakeN id n) n := by
 unfold En.wakeN
 rw [List.range_succ, List.foldl_append]
 rfl
theorem nC {S : En} {id : Nat} {R : Rn} (hR : S.getR id = some R) : ∀ n, ∃ R', (S.wakeN id n).getR id = some R' ∧ SameR R R' ∧ (S.wakeN id n).CH.length ≤ S.CH.length + n
 | 0 => ⟨R, hR, SameR.refl R, Nat.le_refl _⟩
 | n + 1 => by
  obtain ⟨R1, h1, h2, h3⟩ := nC hR n
  obtain ⟨R2, k1, k2, k3⟩ := yG (k := n) h1
  rw [fi]
  exact ⟨R2, k1, h2.trans k2, by omega⟩
theorem dI (hR : S.getR id = some R) (hs : R.CF[k]? = some s) : S.leave id k = (({ S with CI := S.CI.eraseP (·.1 == s.token) }.setR id (R.setS k { s with token := 0 })).unset ⟨id, (k : Int), 1⟩).unset ⟨id, (k : Int), 2⟩ := by
 unfold En.leave
 rw [hR]
 simp only [hs]
theorem cv {s' : Sp} (hs : R.CF[k]? = some s) : (R.setS k s').CF[k]? = some s' := by
 have := (List.getElem?_eq_some_iff.1 hs).1
 simp [Rn.setS, this]
theorem f7 (hR : S.getR id = some R) (hs : R.CF[k]? = some s) : (S.leave id k).getR id = some (R.setS k { s with token := 0 }) := by
 rw [dI hR hs]
 exact ch (S := { S with CI := S.CI.eraseP (·.1 == s.token) }) hR
theorem kf : (S.leave id k).tms.length ≤ S.tms.length := by
 unfold En.leave
 split
 · split
   · exact Nat.le_trans (List.length_filter_le _ _) (List.length_filter_le _ _)
   · exact Nat.le_refl _
 · exact Nat.le_refl _
theorem jX : (S.leave id k).CH = S.CH := by
 unfold En.leave
 split
 · split <;> rfl
 · rfl
def eK (s : Sp) : Sp := if s.state = 5 ∨ s.state = 6 then s else { s with state := 7 }
theorem ng (hR : S.getR id = some R) (hs : R.CF[k]? = some s) : nk id S k = (S.leave id k).setR id ((R.setS k { s with token := 0 }).setS k (eK { s with token := 0 })) := by
 unfold nk
 rw [nw _ (f7 hR hs) (cv hs)]
 rfl
theorem kb {a b : Sp} : (R.setS k a).setS k b = R.setS k b := by
 unfold Rn.setS
 simp
theorem uD (hR : S.getR id = some R) (hs : R.CF[k]? = some s) : (S.leave id k).setR id (R.setS k { s with token := 0 }) = S.leave id k := by
 rw [dI hR hs]
 show (((({ S with CI := S.CI.eraseP (·.1 == s.token) }.setR id (R.setS k { s with token := 0 })).setR id (R.setS k { s with token := 0 })).unset ⟨id, (k : Int), 1⟩).unset ⟨id, (k : Int), 2⟩) = _
 rw [ed]
theorem ku (S : En) (id n : Nat) : S.endN id (n + 1) = nk id (S.endN id n) n := by
 unfold En.endN
 rw [List.range_succ, List.foldl_append]
 rfl
theorem vR {S : En} {id : Nat} {R : Rn} (hR : S.getR id = some R) : ∀ n, n ≤ R.CF.length → ∃ R', (S.endN id n).getR id = some R' ∧ SameR R R' ∧ (S.endN id n).tms.length ≤ S.tms.length ∧ (S.endN id n).CH = S.CH
 | 0, _ => ⟨R, hR, SameR.refl R, Nat.le_refl _, rfl⟩
 | n + 1, hn => by
  obtain ⟨R1, h1, h2, h3, h4⟩ := vR hR n (by omega)
  obtain ⟨s, hs⟩ : ∃ s, R1.CF[n]? = some s := ⟨R1.CF[n]'(by rw [h2.len]; omega), by simp⟩
  rw [ku, ng h1 hs]
  refine ⟨_, ch (f7 h1 hs), h2.trans ((SameR.setS R1 n _).trans (SameR.setS _ n _)), Nat.le_trans kf h3, ?_⟩
  show ((S.endN id n).leave id n).CH = _
  rw [jX, h4]
theorem pQ {st : Int} (hR : S.getR id = some R) : S.finish id st = (let T := ({ S with ends := S.ends + 1 }.setR id { R with state := st, ended := S.ends + 1 }).unset ⟨id, -1, 0⟩
 let U := T.endN id R.CF.length
 { U with CH := U.CH.filter fun p => p.run != id }) := by
 unfold En.finish
 rw [hR]
end
end FK

namespace FK
def En.hand (S : En) (p : Pl) (q : List Pl) (R : Rn) (s : Sp) (nd : Node) : En :=
 let T := { S with CH := q, CC := S.CC + 1 }.setR p.run (R.setS p.node.toNat { state := 3, CE := s.CE + 1, token := S.CC + 1 })
 let U := { T with CI := T.CI ++ [(S.CC + 1, p)] }
 (U.setT ⟨p.run, p.node, 1⟩ (U.later nd.close.toNat)).life p nd
def BM (S : En) (o : Option (Nat × Rn)) : Prop := (∀ m, o = some m → m ∈ S.runs ∧ 0 < m.2.ended) ∧ ∀ r ∈ S.runs, 0 < r.2.ended → ∃ m, o = some m ∧ m.2.ended ≤ r.2.ended
theorem iZ {α : Type} {x r : α} : ∀ {l : List α} {j : Nat}, l[j]? = some x → r ∈ l → r = x ∨ r ∈ l.eraseIdx j
 | [], _, h, _ => by simp at h
 | a :: l, 0, h, hr => by
  simp at h
  subst h
  simpa using hr
 | a :: l, j + 1, h, hr => by
  rw [List.eraseIdx_cons_succ]
  rcases List.mem_cons.1 hr with rfl | hr
  · exact .inr (List.mem_cons_self)
  · rcases iZ (l := l) (j := j) (by simpa using h) hr with h' | h'
    · exact .inl h'
    · exact .inr (List.mem_cons_of_mem _ h')
abbrev s0 : Sp := ⟨0, 0, 0⟩
abbrev s1 : Sp := ⟨1, 0, 0⟩
def Rn.begun (fl : Flow) : Rn := ⟨fl, 1, List.replicate fl.CG.length s1, 0⟩
def rh (S S0 : En) : Prop := if S.runs.length = 6 then ∃ o, BM S o ∧ S0 = (match o with | some m => S.unrun m.1 | none => S) else S0 = S
def En.begin (S : En) (fl : Flow) : En := { S with CD := S.CD + 1, runs := S.runs ++ [(S.CD + 1, Rn.begun fl)] }
def En.submit (S : En) (fl : Flow) : En := (((S.begin fl).setT ⟨S.CD + 1, -1, 0⟩ (S.later fl.deadline.toNat)).wake (S.CD + 1))
def En.fresh : En := ⟨0, 0, 0, 0, 0, [], [], [], [], 0⟩
theorem oC {S : En} {fl : Flow} (h : ∀ r ∈ S.runs, r.1 ≤ S.CD) : (S.begin fl).getR (S.CD + 1) = some (Rn.begun fl) := by
 unfold En.getR En.begin
 simp only
 rw [List.find?_append]
 have : S.runs.find? (·.1 == S.CD + 1) = none := by
  rw [List.find?_eq_none]
  intro r hr
  have := h r hr
  simp
  omega
 rw [this]
 simp
theorem wz (ns : List Node) (l : List Sp) (k : Nat) : (bY ns l k).length = l.length := by
 unfold bY
 split
 · split <;> simp
 · rfl
theorem ka (ns : List Node) : ∀ (T : List Nat) (l : List Sp), (T.foldl (bY ns) l).length = l.length
 | [], _ => rfl
 | k :: T, l => by rw [List.foldl_cons, ka ns T, wz]
def Rn.turned (R : Rn) (k : Nat) (s : Sp) (st : Int) : Rn := (R.setS k { s with token := 0 }).setS k { s with token := 0, state := st }
def Rn.skips (R : Rn) (T : List Nat) : Rn := { R with CF := T.foldl (bY R.fl.CG) R.CF }
def En.rests (S : En) (id k : Nat) (R : Rn) (s : Sp) (wait : Nat) : En := ((S.leave id k).setR id (R.turned k s 4)).setT ⟨id, (k : Int), 1⟩ ((S.leave id k).later wait)
def En.dies (S : En) (id k : Nat) (R : Rn) (s : Sp) (T : List Nat) : En := ((S.leave id k).setR id ((R.turned k s 6).skips T)).settle id
end FK

namespace FK
def En.stp (S : En) (id k : Nat) : Option Sp := (S.getR id).bind fun R => R.CF[k]?
structure SpOk (st : Int) (s : Sp) (n : Node) : Prop where
 st1 : 1 ≤ s.state
 st7 : s.state ≤ 7
 tr0 : 0 ≤ s.CE
 trb : s.CE ≤ n.CJ
 low : s.state = 1 ∨ s.state = 2 ∨ s.state = 4 → s.CE < n.CJ
 wait : s.state = 1 → s.CE = 0
 work : s.state = 3 → 1 ≤ s.CE
 idle : s.state ≠ 3 → s.token = 0
 dead : s.state = 6 → s.CE = n.CJ
 over : st ≠ 1 → s.state = 5 ∨ s.state = 6 ∨ s.state = 7
structure RnOk (ends : Nat) (R : Rn) : Prop where
 fl : Fit R.fl
 len : R.CF.length = R.fl.CG.length
 sp : ∀ (k : Nat) (s : Sp) (n : Node), R.CF[k]? = some s → R.fl.CG[k]? = some n → SpOk R.state s n
 ended : R.ended = 0 ↔ R.state = 1
 ends : R.ended ≤ ends
def wb (R : Rn) (p : Pl) : Prop := R.state = 1 ∧ ((p.node = -1 ∧ p.what = 0) ∨ ∃ (k : Nat) (s : Sp), p.node = k ∧ R.CF[k]? = some s ∧ ((p.what = 1 ∧ (s.state = 3 ∨ s.state = 4)) ∨ (p.what = 2 ∧ s.state = 3)))
def BR (S : En) (x : KD) : Prop := x.2 ≤ 4611686018427387904 ∧ ∃ R, S.getR x.1.run = some R ∧ wb R x.1
structure Ok (S : En) : Prop where
 now : S.now ≤ 4611686018427387904
 seed : S.seed < 18446744073709551616
 ids : (S.runs.map (·.1)).Nodup
 low : ∀ i ∈ S.runs.map (·.1), 1 ≤ i ∧ i ≤ S.CD
 six : S.runs.length ≤ 6
 run : ∀ id R, S.getR id = some R → RnOk S.ends R
 tkeys : (S.CI.map (·.1)).Nodup
 tlow : ∀ t ∈ S.CI, 1 ≤ t.1 ∧ t.1 ≤ S.CC
 CI : ∀ t p, (t, p) ∈ S.CI ↔ ∃ (id k : Nat) (s : Sp), p = ⟨id, (k : Int), 0⟩ ∧ S.stp id k = some s ∧ s.state = 3 ∧ s.token = t
 qnd : S.CH.Nodup
 CH : ∀ p, p ∈ S.CH ↔ ∃ (id k : Nat) (s : Sp), p = ⟨id, (k : Int), 0⟩ ∧ S.stp id k = some s ∧ s.state = 2
 knd : (S.tms.map (·.1)).Nodup
 tms : ∀ x ∈ S.tms, BR S x
section
variable {id k : Nat} {S : En} {R : Rn} {s : Sp}
theorem Ok.node (h : Ok S) (hR : S.getR id = some R) (hs : R.CF[k]? = some s) : ∃ n, R.fl.CG[k]? = some n ∧ SpOk R.state s n := by
 have hr := h.run id R hR
 have hk := (List.getElem?_eq_some_iff.1 hs).1
 have : R.fl.CG[k]? = some (R.fl.CG[k]'(by rw [← hr.len]; exact hk)) := List.getElem?_eq_getElem _
 exact ⟨_, this, hr.sp k s _ hs this⟩
theorem iq (h : S.stp id k = some s) : ∃ R, S.getR id = some R ∧ R.CF[k]? = some s := by
 unfold En.stp at h
 cases hR : S.getR id with
 | none => rw [hR] at h; cases h
 | some R => rw [hR] at h; exact ⟨R, rfl, h⟩
theorem fC (hR : S.getR id = some R) (hs : R.CF[k]? = some s) : S.stp id k = some s := by
 unfold En.stp
 rw [hR]
 exact hs
theorem gA {a b : Nat} {i j : Nat} {u v : Int} (h : (⟨a, (i : Int), u⟩ : Pl) = ⟨b, (j : Int), v⟩) : a = b ∧ i = j ∧ u = v := by
 injection h with h1 h2 h3
 exact ⟨h1, by omega, h3⟩
theorem yM {S' : En} {s' : Sp} (hR : S.getR id = some R) (hs : R.CF[k]? = some s) (hget : ∀ a, S'.getR a = if a = id then some (R.setS k s') else S.getR a) (a j : Nat) : S'.stp a j = if a = id ∧ j = k then some s' else S.stp a j := by
 unfold En.stp
 rw [hget]
 by_cases h : a = id
 · subst h
   rw [if_pos rfl, hR]
   show (R.setS k s').CF[j]? = _
   by_cases hj : j = k
   · subst hj
     rw [cv hs]
     simp
   · rw [if_neg (fun h => hj h.2)]
     show (R.CF.set k s')[j]? = R.CF[j]?
     rw [List.getElem?_set_ne (Ne.symm hj)]
 · rw [if_neg h, if_neg (fun x => h x.1)]
theorem Ok.turn {S' : En} (h : Ok S) {s' : Sp} {n : Node} (hR : S.getR id = some R) (hs : R.CF[k]? = some s) (hn : R.fl.CG[k]? = some n)
 (hnow : S'.now ≤ 4611686018427387904) (hseed : S'.seed = S.seed) (hruns : S'.runs.map (·.1) = S.runs.map (·.1)) (hlr : S'.CD = S.CD) (hends : S'.ends = S.ends) (hget : ∀ a, S'.getR a = if a = id then some (R.setS k s') else S.getR a)
 (hsp : SpOk R.state s' n) (tk : (S'.CI.map (·.1)).Nodup) (tl : ∀ t ∈ S'.CI, 1 ≤ t.1 ∧ t.1 ≤ S'.CC)
 (ht : ∀ t p, (t, p) ∈ S'.CI ↔ ((t, p) ∈ S.CI ∧ p ≠ ⟨id, (k : Int), 0⟩) ∨ (s'.state = 3 ∧ t = s'.token ∧ p = ⟨id, (k : Int), 0⟩))
 (qn : S'.CH.Nodup) (hq : ∀ p, p ∈ S'.CH ↔ (p ∈ S.CH ∧ p ≠ ⟨id, (k : Int), 0⟩) ∨ (s'.state = 2 ∧ p = ⟨id, (k : Int), 0⟩))
 (kn : (S'.tms.map (·.1)).Nodup) (hk : ∀ x ∈ S'.tms, (x ∈ S.tms ∧ (x.1 = ⟨id, (k : Int), 1⟩ → s'.state = 3 ∨ s'.state = 4) ∧ (x.1 = ⟨id, (k : Int), 2⟩ → s'.state = 3)) ∨ BR S' x) : Ok S' := by
 have hst := yM hR hs hget
 refine ⟨hnow, hseed ▸ h.seed, hruns ▸ h.ids, fun i hi => ?_, ?_, fun a R' hR' => ?_, tk, tl, fun t p => ?_, qn, fun p => ?_, kn, fun x hx => ?_⟩
 · rw [hlr]
   rw [hruns] at hi
   exact h.low i hi
 · have := congrArg List.length hruns
   simp only [List.length_map] at this
   have := h.six
   omega
 · rw [hget] at hR'
   rw [hends]
   by_cases ha : a = id
   · rw [if_pos ha] at hR'
     injection hR' with hR'
     subst hR'
     have hr := h.run id R hR
     refine ⟨hr.fl, by simpa [Rn.setS] using hr.len, fun j u m hj hm => ?_, hr.ended, hr.ends⟩
     by_cases hjk : j = k
     · subst hjk
       rw [cv hs] at hj
       injection hj with hj
       subst hj
       have hm' : R.fl.CG[j]? = some m := hm
       rw [hn] at hm'
       injection hm' with hm'
       subst hm'
       exact hsp
     · have hj' : (R.CF.set k s')[j]? = some u := hj
       rw [List.getElem?_set_ne (Ne.symm hjk)] at hj'
       exact hr.sp j u m hj' hm
   · rw [if_neg ha] at hR'
     exact h.run a R' hR'
 · rw [ht, h.CI]
   constructor
   · rintro (⟨⟨a, j, u, rfl, h1, h2, h3⟩, hne⟩ | ⟨h1, rfl, rfl⟩)
     · refine ⟨a, j, u, rfl, ?_, h2, h3⟩
       rw [hst, if_neg]
       · exact h1
       · rintro ⟨rfl, rfl⟩
         exact hne rfl
     · exact ⟨id, k, s', rfl, by rw [hst, if_pos ⟨rfl, rfl⟩], h1, rfl⟩
   · rintro ⟨a, j, u, rfl, h1, h2, h3⟩
     rw [hst] at h1
     by_cases hc : a = id ∧ j = k
     · rw [if_pos hc] at h1
       injection h1 with h1
       subst h1
       obtain ⟨rfl, rfl⟩ := hc
       exact .inr ⟨h2, h3.symm, rfl⟩
     · rw [if_neg hc] at h1
       refine .inl ⟨⟨a, j, u, rfl, h1, h2, h3⟩, fun e => ?_⟩
       obtain ⟨e1, e2, _⟩ := gA e
       exact hc ⟨e1, e2⟩
 · rw [hq, h.CH]
   constructor
   · rintro (⟨⟨a, j, u, rfl, h1, h2⟩, hne⟩ | ⟨h1, rfl⟩)
     · refine ⟨a, j, u, rfl, ?_, h2⟩
       rw [hst, if_neg]
       · exact h1
       · rintro ⟨rfl, rfl⟩
         exact hne rfl
     · exact ⟨id, k, s', rfl, by rw [hst, if_pos ⟨rfl, rfl⟩], h1⟩
   · rintro ⟨a, j, u, rfl, h1, h2⟩
     rw [hst] at h1
     by_cases hc : a = id ∧ j = k
     · rw [if_pos hc] at h1
       injection h1 with h1
       subst h1
       obtain ⟨rfl, rfl⟩ := hc
       exact .inr ⟨h2, rfl⟩
     · rw [if_neg hc] at h1
       refine .inl ⟨⟨a, j, u, rfl, h1, h2⟩, fun e => ?_⟩
       obtain ⟨e1, e2, _⟩ := gA e
       exact hc ⟨e1, e2⟩
 · rcases hk x hx with ⟨h1, h2, h3⟩ | h1
   · obtain ⟨hb, R1, hR1, hst1, hat⟩ := h.tms x h1
     refine ⟨hb, ?_⟩
     rw [hget]
     by_cases ha : x.1.run = id
     · rw [if_pos ha]
       rw [ha, hR] at hR1
       injection hR1 with hR1
       subst hR1
       refine ⟨_, rfl, hst1, ?_⟩
       rcases hat with hat | ⟨j, u, e1, e2, e3⟩
       · exact .inl hat
       · refine .inr ?_
         by_cases hj : j = k
         · subst hj
           refine ⟨j, s', e1, cv hs, ?_⟩
           rcases e3 with ⟨e3, _⟩ | ⟨e3, _⟩
           · refine .inl ⟨e3, h2 ?_⟩
             obtain ⟨⟨p1, p2, p3⟩, x2⟩ := x
             simp only at ha e1 e3
             rw [ha, e1, e3]
           · refine .inr ⟨e3, h3 ?_⟩
             obtain ⟨⟨p1, p2, p3⟩, x2⟩ := x
             simp only at ha e1 e3
             rw [ha, e1, e3]
         · refine ⟨j, u, e1, ?_, e3⟩
           show (R.CF.set k s')[j]? = some u
           rw [List.getElem?_set_ne (Ne.symm hj)]
           exact e2
     · rw [if_neg ha]
       exact ⟨R1, hR1, hst1, hat⟩
   · exact h1
theorem setR_keys : (S.setR id R).runs.map (·.1) = S.runs.map (·.1) := by
 unfold En.setR
 simp only [List.map_map]
 refine List.map_congr_left fun x _ => ?_
 simp only [Function.comp_apply]
 split <;> rfl
theorem iS {R' : Rn} (h : S.getR id = some R) (a : Nat) : (S.setR id R').getR a = if a = id then some R' else S.getR a := by
 by_cases ha : a = id
 · subst ha
   rw [if_pos rfl, ch h]
 · rw [if_neg ha, d7 ha]
theorem SpOk.running {st : Int} {n : Node} (h : SpOk st s n) (hs : s.state = 1 ∨ s.state = 2 ∨ s.state = 3 ∨ s.state = 4) : st = 1 := by
 refine Classical.byContradiction fun hne => ?_
 have := h.over hne
 omega
theorem Ok.ready {S : En} (h : Ok S) {id k : Nat} {R : Rn} {s : Sp} (hR : S.getR id = some R) (hs : R.CF[k]? = some s) (hst : s.state = 1 ∨ (s.state = 4 ∧ ∀ x ∈ S.tms, x.1 ≠ ⟨id, (k : Int), 1⟩)) : Ok (S.ready id k) := by
 obtain ⟨n, hn, hp⟩ := h.node hR hs
 rw [hZ hR hs]
 have hno : (⟨id, (k : Int), 0⟩ : Pl) ∉ S.CH := by
  rw [h.CH]
  rintro ⟨a, j, u, e, h1, h2⟩
  obtain ⟨rfl, rfl, _⟩ := gA e
  rw [fC hR hs] at h1
  injection h1 with h1
  subst h1
  omega
 have hnt : ∀ t, (t, (⟨id, (k : Int), 0⟩ : Pl)) ∉ S.CI := fun t => by
  rw [h.CI]
  rintro ⟨a, j, u, e, h1, h2, _⟩
  obtain ⟨rfl, rfl, _⟩ := gA e
  rw [fC hR hs] at h1
  injection h1 with h1
  subst h1
  omega
 have hrun := hp.running (by omega)
 refine h.turn (s' := { s with state := 2 }) hR hs hn h.now rfl setR_keys rfl rfl (iS hR) ?_ h.tkeys h.tlow ?_ ?_ ?_ h.knd ?_
 · exact ⟨by show (1 : Int) ≤ 2; omega, by show (2 : Int) ≤ 7; omega, hp.tr0, hp.trb, fun _ => hp.low (by omega), fun e => absurd (show (2 : Int) = 1 from e) (by decide), fun e => absurd (show (2 : Int) = 3 from e) (by decide), fun _ => hp.idle (by omega), fun e => absurd (show (2 : Int) = 6 from e) (by decide), fun e => absurd hrun e⟩
 · intro t p
   show (t, p) ∈ S.CI ↔ _
   constructor
   · intro hm
     refine .inl ⟨hm, ?_⟩
     rintro rfl
     exact hnt t hm
   · rintro (⟨hm, _⟩ | ⟨e, _⟩)
     · exact hm
     · exact absurd (show (2 : Int) = 3 from e) (by decide)
 · show (S.CH ++ [_]).Nodup
   rw [List.nodup_append]
   exact ⟨h.qnd, by simp, by
    intro a ha b hb
    simp at hb
    subst hb
    rintro rfl
    exact hno ha⟩
 · intro p
   show p ∈ S.CH ++ [_] ↔ _
   rw [List.mem_append, List.mem_singleton]
   constructor
   · rintro (hm | rfl)
     · refine .inl ⟨hm, ?_⟩
       rintro rfl
       exact hno hm
     · exact .inr ⟨rfl, rfl⟩
   · rintro (⟨hm, _⟩ | ⟨_, rfl⟩)
     · exact .inl hm
     · exact .inr rfl
 · intro x hx
   refine .inl ⟨hx, fun e => ?_, fun e => ?_⟩
   · exfalso
     rcases hst with h1 | ⟨_, h1⟩
     · obtain ⟨_, R1, hR1, _, hat⟩ := h.tms x hx
       rw [e] at hR1 hat
       rw [hR] at hR1
       injection hR1 with hR1
       subst hR1
       rcases hat with ⟨e1, _⟩ | ⟨j, u, e1, e2, e3⟩
       · simp only at e1; omega
       · have : k = j := by simp only at e1; omega
         subst this
         rw [hs] at e2
         injection e2 with e2
         subst e2
         simp only at e3
         omega
     · exact h1 x hx e
   · exfalso
     obtain ⟨_, R1, hR1, _, hat⟩ := h.tms x hx
     rw [e] at hR1 hat
     rw [hR] at hR1
     injection hR1 with hR1
     subst hR1
     rcases hat with ⟨e1, _⟩ | ⟨j, u, e1, e2, e3⟩
     · simp only at e1; omega
     · have : k = j := by simp only at e1; omega
       subst this
       rw [hs] at e2
       injection e2 with e2
       subst e2
       simp only at e3
       omega
theorem Ok.wakeK {S : En} (h : Ok S) (id k : Nat) : Ok (En.wakeK id S k) := by
 cases hR : S.getR id with
 | none => unfold En.wakeK; rw [hR]; exact h
 | some R =>
  rw [jK hR]
  split
  · rename_i hf
    have h1 : bS R.CF k 1 = true := by
     unfold dv at hf
     simp only [Bool.and_eq_true] at hf
     exact hf.1
    obtain ⟨s, hs, h2⟩ := qB h1
    exact h.ready hR hs (.inl h2)
  · exact h
theorem Ok.wakeN {S : En} (h : Ok S) (id : Nat) : ∀ n, Ok (S.wakeN id n)
 | 0 => h
 | n + 1 => by
  rw [fi]
  exact (Ok.wakeN h id n).wakeK id n
theorem Ok.wake {S : En} (h : Ok S) (id : Nat) : Ok (S.wake id) := by
 unfold En.wake
 split
 · exact h.wakeN id _
 · exact h
end
end FK

namespace FK
section
variable {S : En} {id k : Nat} {R : Rn} {s : Sp}
theorem kR {t : Nat} : ∀ {l : List (Nat × Pl)}, (l.map (·.1)).Nodup → ∀ x, x ∈ l.eraseP (·.1 == t) ↔ x ∈ l ∧ x.1 ≠ t
 | [], _, x => by simp
 | y :: l, hn, x => by
  simp only [List.map_cons, List.nodup_cons] at hn
  rw [List.eraseP_cons]
  by_cases hy : y.1 = t
  · have : (y.1 == t) = true := by simpa using hy
    rw [this, cond_true]
    constructor
    · intro hx
      refine ⟨.tail _ hx, fun e => hn.1 ?_⟩
      rw [hy, ← e]
      exact List.mem_map_of_mem (f := (·.1)) hx
    · rintro ⟨hx, hne⟩
      rcases List.mem_cons.1 hx with rfl | hx
      · exact absurd hy hne
      · exact hx
  · have : (y.1 == t) = false := by simpa using hy
    rw [this, cond_false, List.mem_cons, kR hn.2, List.mem_cons]
    constructor
    · rintro (rfl | ⟨h1, h2⟩)
      · exact ⟨.inl rfl, hy⟩
      · exact ⟨.inr h1, h2⟩
    · rintro ⟨rfl | h1, h2⟩
      · exact .inl rfl
      · exact .inr ⟨h1, h2⟩
theorem gP {α β : Type} {f : α → β} {l m : List α} (h : (l.map f).Nodup) (s : m.Sublist l) : (m.map f).Nodup := h.sublist (s.map f)
theorem Ok.times (h : Ok S) {now sets : Nat} {tms : List KD} (hn : now ≤ 4611686018427387904) (hk : (tms.map (·.1)).Nodup) (ht : ∀ x ∈ tms, BR S x) : Ok { S with now := now, tms := tms, sets := sets } :=
 ⟨hn, h.seed, h.ids, h.low, h.six, h.run, h.tkeys, h.tlow, h.CI, h.qnd, h.CH, hk, ht⟩
theorem Ok.setT {S : En} (h : Ok S) {p : Pl} {a : Nat} (ha : a ≤ 4611686018427387904) {R : Rn} (hR : S.getR p.run = some R) (ht : wb R p) : Ok (S.setT p a) := by
 refine h.times (now := S.now) h.now ?_ ?_
 · rw [List.map_append, List.nodup_append]
   refine ⟨gP h.knd List.filter_sublist, by simp, ?_⟩
   intro x hx y hy
   simp at hy
   subst hy
   rintro rfl
   obtain ⟨u, hu, rfl⟩ := List.mem_map.1 hx
   have := (List.mem_filter.1 hu).2
   simp at this
 · intro x hx
   rcases List.mem_append.1 hx with hx | hx
   · exact h.tms x (List.mem_filter.1 hx).1
   · rw [List.mem_singleton] at hx
     subst hx
     exact ⟨ha, R, hR, ht⟩
theorem jP (S : En) (n : Nat) : S.later n ≤ 4611686018427387904 := by unfold En.later; omega
theorem Ok.life {S : En} (h : Ok S) {id k : Nat} {wh : Int} {R : Rn} {s : Sp} (n : Node) (hR : S.getR id = some R) (hs : R.CF[k]? = some s) (h3 : s.state = 3) : Ok (S.life ⟨id, (k : Int), wh⟩ n) := by
 unfold En.life
 split
 · obtain ⟨_, _, hp⟩ := h.node hR hs
   exact h.setT (jP _ _) hR ⟨hp.running (by omega), .inr ⟨k, s, rfl, hs, .inr ⟨rfl, h3⟩⟩⟩
 · exact h
theorem qw {st : Int} (hR : S.getR id = some R) (hs : R.CF[k]? = some s) : (S.leave id k).setR id ((R.setS k { s with token := 0 }).setS k { s with token := 0, state := st }) = { S.setR id (R.setS k ⟨st, s.CE, 0⟩) with CI := S.CI.eraseP (·.1 == s.token), tms := (S.tms.filter fun x => x.1 != ⟨id, (k : Int), 1⟩).filter fun x => x.1 != ⟨id, (k : Int), 2⟩ } := by
 rw [kb, dI hR hs]
 show ((({ S with CI := S.CI.eraseP (·.1 == s.token) }.setR id (R.setS k { s with token := 0 })).setR id _).unset _).unset _ = _
 rw [ed]
 rfl
theorem Ok.task (h : Ok S) (hR : S.getR id = some R) (hs : R.CF[k]? = some s) (h3 : s.state = 3) : (s.token, (⟨id, (k : Int), 0⟩ : Pl)) ∈ S.CI := by
 rw [h.CI]
 exact ⟨id, k, s, rfl, fC hR hs, h3, rfl⟩
theorem Ok.part (h : Ok S) {n : Node} (hR : S.getR id = some R) (hs : R.CF[k]? = some s) (hn : R.fl.CG[k]? = some n) (h3 : s.state = 3) {st : Int} (hst : st = 5 ∨ (st = 4 ∧ s.CE < n.CJ) ∨ (st = 6 ∧ s.CE = n.CJ)) : Ok ((S.leave id k).setR id ((R.setS k { s with token := 0 }).setS k { s with token := 0, state := st })) := by
 rw [qw hR hs]
 have hp := (h.run id R hR).sp k s n hs hn
 have hrun := hp.running (by omega)
 have htk := h.task hR hs h3
 have hno : (⟨id, (k : Int), 0⟩ : Pl) ∉ S.CH := by
  rw [h.CH]
  rintro ⟨a, j, u, e, h1, h2⟩
  obtain ⟨rfl, rfl, _⟩ := gA e
  rw [fC hR hs] at h1
  injection h1 with h1
  subst h1
  omega
 refine h.turn (s' := ⟨st, s.CE, 0⟩) hR hs hn h.now rfl setR_keys rfl rfl (iS hR) ?_ (gP h.tkeys List.eraseP_sublist) (fun t ht => h.tlow t (List.mem_of_mem_eraseP ht)) ?_ h.qnd ?_ (gP h.knd (List.filter_sublist.trans List.filter_sublist)) ?_
 · exact ⟨by show 1 ≤ st; omega, by show st ≤ 7; omega, hp.tr0, hp.trb, fun e => by replace e : st = 1 ∨ st = 2 ∨ st = 4 := e; show s.CE < _; omega, fun e => by replace e : st = 1 := e; omega, fun e => by replace e : st = 3 := e; omega, fun _ => rfl, fun e => by replace e : st = 6 := e; show s.CE = _; omega, fun e => absurd hrun e⟩
 · intro t p
   show (t, p) ∈ S.CI.eraseP (·.1 == s.token) ↔ _
   rw [kR h.tkeys]
   constructor
   · rintro ⟨hm, hne⟩
     refine .inl ⟨hm, ?_⟩
     rintro rfl
     obtain ⟨a, j, u, e, h1, h2, h4⟩ := (h.CI _ _).1 hm
     obtain ⟨rfl, rfl, _⟩ := gA e
     rw [fC hR hs] at h1
     injection h1 with h1
     subst h1
     exact hne h4.symm
   · rintro (⟨hm, hne⟩ | ⟨e, _⟩)
     · refine ⟨hm, fun e => hne ?_⟩
       have := ea h.tkeys hm htk e
       injection this
     · replace e : st = 3 := e
       omega
 · intro p
   show p ∈ S.CH ↔ _
   constructor
   · intro hm
     refine .inl ⟨hm, ?_⟩
     rintro rfl
     exact hno hm
   · rintro (⟨hm, _⟩ | ⟨e, _⟩)
     · exact hm
     · replace e : st = 2 := e
       omega
 · intro x hx
   obtain ⟨h1, h2⟩ := List.mem_filter.1 hx
   obtain ⟨h4, h5⟩ := List.mem_filter.1 h1
   refine .inl ⟨h4, fun e => ?_, fun e => ?_⟩
   · rw [e] at h5; simp at h5
   · rw [e] at h2; simp at h2
def En.handT (S : En) (id k : Nat) (q : List Pl) (R : Rn) (s : Sp) : En := { S.setR id (R.setS k ⟨3, s.CE + 1, S.CC + 1⟩) with CH := q, CC := S.CC + 1, CI := S.CI ++ [(S.CC + 1, ⟨id, (k : Int), 0⟩)] }
theorem Ok.handT {S : En} (h : Ok S) {id k : Nat} {q : List Pl} (hq : S.CH = ⟨id, (k : Int), 0⟩ :: q) {R : Rn} {s : Sp} {n : Node} (hR : S.getR id = some R) (hs : R.CF[k]? = some s) (hn : R.fl.CG[k]? = some n) : s.state = 2 ∧ Ok (S.handT id k q R s) := by
 have h2 : s.state = 2 := by
  obtain ⟨a, j, u, e, h1, h2⟩ := (h.CH ⟨id, (k : Int), 0⟩).1 (by rw [hq]; exact .head _)
  obtain ⟨rfl, rfl, _⟩ := gA e
  rw [fC hR hs] at h1
  injection h1 with h1
  subst h1
  exact h2
 refine ⟨h2, ?_⟩
 have hp := (h.run id R hR).sp k s n hs hn
 have hrun := hp.running (by omega)
 have hqn := h.qnd
 rw [hq, List.nodup_cons] at hqn
 have hno : ∀ t ∈ S.CI, t.1 ≠ S.CC + 1 := fun t ht e => by have := (h.tlow t ht).2; omega
 have hnt : ∀ t, (t, (⟨id, (k : Int), 0⟩ : Pl)) ∉ S.CI := fun t => by
  rw [h.CI]
  rintro ⟨a, j, u, e, h1, h4, _⟩
  obtain ⟨rfl, rfl, _⟩ := gA e
  rw [fC hR hs] at h1
  injection h1 with h1
  subst h1
  omega
 refine h.turn (s' := ⟨3, s.CE + 1, S.CC + 1⟩) hR hs hn h.now rfl setR_keys rfl rfl (iS hR) ?_ ?_ ?_ ?_ hqn.2 ?_ h.knd ?_
 · have h5 := hp.low (by omega)
   have h6 := hp.tr0
   exact ⟨by show (1 : Int) ≤ 3; omega, by show (3 : Int) ≤ 7; omega, by show 0 ≤ s.CE + 1; omega, by show s.CE + 1 ≤ _; omega, fun e => by replace e : (3 : Int) = 1 ∨ (3 : Int) = 2 ∨ (3 : Int) = 4 := e; omega, fun e => by replace e : (3 : Int) = 1 := e; omega, fun _ => by show 1 ≤ s.CE + 1; omega, fun e => absurd rfl e, fun e => by replace e : (3 : Int) = 6 := e; omega, fun e => absurd hrun e⟩
 · show ((S.CI ++ [(S.CC + 1, (⟨id, (k : Int), 0⟩ : Pl))]).map (·.1)).Nodup
   rw [List.map_append, List.nodup_append]
   refine ⟨h.tkeys, by simp, ?_⟩
   intro x hx y hy
   simp at hy
   subst hy
   rintro rfl
   obtain ⟨u, hu, he⟩ := List.mem_map.1 hx
   exact hno u hu he
 · intro t ht
   show 1 ≤ t.1 ∧ t.1 ≤ S.CC + 1
   rcases List.mem_append.1 ht with ht | ht
   · have := h.tlow t ht
     omega
   · rw [List.mem_singleton] at ht
     subst ht
     exact ⟨by show 1 ≤ S.CC + 1; omega, by show S.CC + 1 ≤ S.CC + 1; omega⟩
 · intro t p
   show (t, p) ∈ S.CI ++ [(S.CC + 1, (⟨id, (k : Int), 0⟩ : Pl))] ↔ _
   rw [List.mem_append, List.mem_singleton]
   constructor
   · rintro (hm | e)
     · refine .inl ⟨hm, ?_⟩
       rintro rfl
       exact hnt t hm
     · injection e with e1 e2
       exact .inr ⟨rfl, e1, e2⟩
   · rintro (⟨hm, _⟩ | ⟨_, rfl, rfl⟩)
     · exact .inl hm
     · exact .inr rfl
 · intro p
   show p ∈ q ↔ _
   rw [hq]
   constructor
   · intro hm
     refine .inl ⟨.tail _ hm, ?_⟩
     rintro rfl
     exact hqn.1 hm
   · rintro (⟨hm, hne⟩ | ⟨e, _⟩)
     · rcases List.mem_cons.1 hm with rfl | hm
       · exact absurd rfl hne
       · exact hm
     · exact absurd (show (3 : Int) = 2 from e) (by decide)
 · intro x hx
   exact .inl ⟨hx, fun _ => .inl rfl, fun _ => rfl⟩
end
structure EndAt (S U : En) (id : Nat) (RT : Rn) (n : Nat) : Prop where
 run : ∃ R', U.getR id = some R' ∧ R'.fl = RT.fl ∧ R'.state = RT.state ∧ R'.ended = RT.ended ∧ R'.CF.length = RT.CF.length ∧ ∀ (j : Nat) (s : Sp), RT.CF[j]? = some s → R'.CF[j]? = some (if j < n then eK { s with token := 0 } else s)
 others : ∀ a, a ≠ id → U.getR a = S.getR a
 keys : U.runs.map (·.1) = S.runs.map (·.1)
 tsub : U.CI.Sublist S.CI
 CI : ∀ t p, (t, p) ∈ U.CI ↔ (t, p) ∈ S.CI ∧ ∀ j : Nat, j < n → p ≠ ⟨id, (j : Int), 0⟩
 msub : U.tms.Sublist S.tms
 tms : ∀ x, x ∈ U.tms ↔ x ∈ S.tms ∧ ∀ j : Nat, j < n → x.1 ≠ ⟨id, (j : Int), 1⟩ ∧ x.1 ≠ ⟨id, (j : Int), 2⟩
 CH : U.CH = S.CH
 now : U.now = S.now
 seed : U.seed = S.seed
 CD : U.CD = S.CD
 CC : U.CC = S.CC
 ends : U.ends = S.ends
 sets : U.sets = S.sets
structure TaskAt (T : En) (id : Nat) (RT : Rn) : Prop where
 get : T.getR id = some RT
 keys : (T.CI.map (·.1)).Nodup
 low : ∀ t ∈ T.CI, 1 ≤ t.1
 CI : ∀ t (k : Nat), (t, (⟨id, (k : Int), 0⟩ : Pl)) ∈ T.CI ↔ ∃ s, RT.CF[k]? = some s ∧ s.state = 3 ∧ s.token = t
 idle : ∀ (k : Nat) (s : Sp), RT.CF[k]? = some s → s.state ≠ 3 → s.token = 0
theorem vS {T : En} {id : Nat} {RT : Rn} (h : TaskAt T id RT) : ∀ n, n ≤ RT.CF.length → EndAt T (T.endN id n) id RT n
 | 0, _ => ⟨⟨RT, h.get, rfl, rfl, rfl, rfl, fun j s hj => by simpa using hj⟩, fun _ _ => rfl, rfl, List.Sublist.refl _, fun t p => by simp [En.endN], List.Sublist.refl _, fun x => by simp [En.endN], rfl, rfl, rfl, rfl, rfl, rfl, rfl⟩
 | n + 1, hn => by
  have ih := vS h n (by omega)
  obtain ⟨R', g1, g2, g3, g4, g5, g6⟩ := ih.run
  obtain ⟨s, hs⟩ : ∃ s, RT.CF[n]? = some s := ⟨RT.CF[n]'(by omega), by simp⟩
  have hs' : R'.CF[n]? = some s := by simpa using g6 n s hs
  rw [ku, ng g1 hs']
  have hpe := qw (st := (eK { s with token := 0 }).state) g1 hs'
  have hee : ({ ({ s with token := 0 } : Sp) with state := (eK { s with token := 0 }).state } : Sp) = eK { s with token := 0 } := by
   unfold eK
   split <;> rfl
  have hee2 : (⟨(eK { s with token := 0 }).state, s.CE, 0⟩ : Sp) = eK { s with token := 0 } := by
   unfold eK
   split <;> rfl
  have hpe' : ((T.endN id n).leave id n).setR id ((R'.setS n { s with token := 0 }).setS n (eK { s with token := 0 })) = { (T.endN id n).setR id (R'.setS n (eK { s with token := 0 })) with CI := (T.endN id n).CI.eraseP (·.1 == s.token), tms := ((T.endN id n).tms.filter fun x => x.1 != ⟨id, (n : Int), 1⟩).filter fun x => x.1 != ⟨id, (n : Int), 2⟩ } := by
   rw [← hee2, ← hpe]
  rw [hpe']
  refine ⟨⟨R'.setS n (eK { s with token := 0 }), ch g1, g2, g3, g4, by simpa [Rn.setS] using g5, fun j u hj => ?_⟩, fun a ha => ?_, ?_, (List.eraseP_sublist).trans ih.tsub, fun t p => ?_, (List.filter_sublist.trans List.filter_sublist).trans ih.msub, fun x => ?_, ih.CH, ih.now, ih.seed, ih.CD, ih.CC, ih.ends, ih.sets⟩
  · show (R'.CF.set n _)[j]? = _
    by_cases hjn : j = n
    · subst hjn
      rw [hs] at hj
      injection hj with hj
      subst hj
      rw [List.getElem?_set_self (by rw [g5]; omega), if_pos (by omega)]
    · rw [List.getElem?_set_ne (Ne.symm hjn), g6 j u hj]
      by_cases hlt : j < n
      · rw [if_pos hlt, if_pos (by omega)]
      · rw [if_neg hlt, if_neg (by omega)]
  · show ((T.endN id n).setR id _).getR a = _
    rw [d7 ha, ih.others a ha]
  · show ((T.endN id n).setR id _).runs.map (·.1) = _
    rw [setR_keys, ih.keys]
  · show (t, p) ∈ (T.endN id n).CI.eraseP (·.1 == s.token) ↔ _
    rw [kR (gP h.keys ih.tsub), ih.CI]
    constructor
    · rintro ⟨⟨h1, h2⟩, h3⟩
      refine ⟨h1, fun j hj => ?_⟩
      by_cases hjn : j = n
      · subst hjn
        rintro rfl
        obtain ⟨u, hu, _, h5⟩ := (h.CI t j).1 h1
        rw [hs] at hu
        injection hu with hu
        subst hu
        exact h3 h5.symm
      · exact h2 j (by omega)
    · rintro ⟨h1, h2⟩
      refine ⟨⟨h1, fun j hj => h2 j (by omega)⟩, fun e => ?_⟩
      by_cases h3 : s.state = 3
      · have h4 : (s.token, (⟨id, (n : Int), 0⟩ : Pl)) ∈ T.CI := (h.CI _ _).2 ⟨s, hs, h3, rfl⟩
        have := ea h.keys h1 h4 e
        injection this with _ e2
        exact h2 n (by omega) e2
      · have := h.idle n s hs h3
        have h5 := h.low _ h1
        replace e : t = s.token := e
        simp only at h5
        omega
  · show x ∈ ((T.endN id n).tms.filter fun x => x.1 != ⟨id, (n : Int), 1⟩).filter (fun x => x.1 != ⟨id, (n : Int), 2⟩) ↔ _
    rw [List.mem_filter, List.mem_filter, ih.tms]
    constructor
    · rintro ⟨⟨⟨h1, h2⟩, h3⟩, h4⟩
      refine ⟨h1, fun j hj => ?_⟩
      by_cases hjn : j = n
      · subst hjn
        exact ⟨by simpa using h3, by simpa using h4⟩
      · exact h2 j (by omega)
    · rintro ⟨h1, h2⟩
      exact ⟨⟨⟨h1, fun j hj => h2 j (by omega)⟩, by simpa using (h2 n (by omega)).1⟩, by simpa using (h2 n (by omega)).2⟩
end FK

namespace FK
theorem RnOk.mono {a b : Nat} {R : Rn} (h : RnOk a R) (hab : a ≤ b) : RnOk b R := ⟨h.fl, h.len, h.sp, h.ended, Nat.le_trans h.ends hab⟩
structure Ended (S U : En) (id : Nat) (st : Int) (R : Rn) : Prop where
 run : ∃ R', U.getR id = some R' ∧ R'.fl = R.fl ∧ R'.state = st ∧ R'.ended = S.ends + 1 ∧ R'.CF.length = R.CF.length ∧ ∀ (j : Nat) (s : Sp), R.CF[j]? = some s → R'.CF[j]? = some (eK { s with token := 0 })
 others : ∀ a, a ≠ id → U.getR a = S.getR a
 keys : U.runs.map (·.1) = S.runs.map (·.1)
 tsub : U.CI.Sublist S.CI
 CI : ∀ t p, (t, p) ∈ U.CI ↔ (t, p) ∈ S.CI ∧ p.run ≠ id
 msub : U.tms.Sublist S.tms
 tms : ∀ x, x ∈ U.tms ↔ x ∈ S.tms ∧ x.1.run ≠ id
 CH : U.CH = S.CH.filter fun p => p.run != id
 now : U.now = S.now
 seed : U.seed = S.seed
 CD : U.CD = S.CD
 CC : U.CC = S.CC
 ends : U.ends = S.ends + 1
 sets : U.sets = S.sets
section
variable {id k : Nat} {S : En} {R : Rn} {s : Sp}
theorem Ok.ended {S : En} (h : Ok S) {id : Nat} {R : Rn} (hR : S.getR id = some R) (st : Int) : Ended S (S.finish id st) id st R := by
 rw [pQ hR]
 simp only
 obtain ⟨RT, hRT⟩ : ∃ RT : Rn, RT = { R with state := st, ended := S.ends + 1 } := ⟨_, rfl⟩
 obtain ⟨T, hT⟩ : ∃ T, T = ({ S with ends := S.ends + 1 }.setR id RT).unset ⟨id, -1, 0⟩ := ⟨_, rfl⟩
 rw [← hRT, ← hT]
 have hsteps : RT.CF = R.CF := by rw [hRT]
 have hget : ∀ a, T.getR a = if a = id then some RT else S.getR a := fun a => by
  rw [hT]
  exact iS (S := { S with ends := S.ends + 1 }) hR a
 have htk : T.CI = S.CI := by rw [hT]; rfl
 have htm : T.tms = S.tms.filter fun x => x.1 != ⟨id, -1, 0⟩ := by rw [hT]; rfl
 have hkeys : T.runs.map (·.1) = S.runs.map (·.1) := by rw [hT]; exact setR_keys (S := { S with ends := S.ends + 1 })
 have ht : TaskAt T id RT := by
  refine ⟨by rw [hget, if_pos rfl], by rw [htk]; exact h.tkeys, fun t ht => (h.tlow t (by rw [← htk]; exact ht)).1, fun t k => ?_, fun k s hs => ?_⟩
  · rw [htk, h.CI, hsteps]
    constructor
    · rintro ⟨a, j, s, e, h1, h2, h3⟩
      obtain ⟨rfl, rfl, _⟩ := gA e
      obtain ⟨R1, hR1, h4⟩ := iq h1
      rw [hR] at hR1
      injection hR1 with hR1
      subst hR1
      exact ⟨s, h4, h2, h3⟩
    · rintro ⟨s, h1, h2, h3⟩
      exact ⟨id, k, s, rfl, fC hR h1, h2, h3⟩
  · rw [hsteps] at hs
    obtain ⟨n, _, hp⟩ := h.node hR hs
    exact hp.idle
 have hlen : R.CF.length ≤ RT.CF.length := by rw [hsteps]; exact Nat.le_refl _
 have hU := vS ht R.CF.length hlen
 obtain ⟨U, hUe⟩ : ∃ U, U = T.endN id R.CF.length := ⟨_, rfl⟩
 rw [← hUe] at hU ⊢
 obtain ⟨R', g1, g2, g3, g4, g5, g6⟩ := hU.run
 have hTt : ∀ t p, (t, p) ∈ S.CI → p.run = id → ∃ j : Nat, j < R.CF.length ∧ p = ⟨id, (j : Int), 0⟩ := fun t p hm hp => by
  obtain ⟨a, j, s, rfl, h1, h2, h3⟩ := (h.CI t p).1 hm
  replace hp : a = id := hp
  subst hp
  obtain ⟨R1, hR1, h4⟩ := iq h1
  rw [hR] at hR1
  injection hR1 with hR1
  subst hR1
  exact ⟨j, (List.getElem?_eq_some_iff.1 h4).1, rfl⟩
 refine ⟨⟨R', g1, by rw [g2, hRT], by rw [g3, hRT], by rw [g4, hRT], by rw [g5, hsteps], fun j s hj => ?_⟩, fun a ha => ?_, ?_, ?_, fun t p => ?_, ?_, fun x => ?_, ?_, ?_, ?_, ?_, ?_, ?_, ?_⟩
 · have := g6 j s (by rw [hsteps]; exact hj)
   rw [if_pos (List.getElem?_eq_some_iff.1 hj).1] at this
   exact this
 · show U.getR a = _
   rw [hU.others a ha, hget, if_neg ha]
 · exact hU.keys.trans hkeys
 · exact htk ▸ hU.tsub
 · show (t, p) ∈ U.CI ↔ _
   rw [hU.CI, htk]
   constructor
   · rintro ⟨h1, h2⟩
     refine ⟨h1, fun e => ?_⟩
     obtain ⟨j, hj, he⟩ := hTt t p h1 e
     exact h2 j hj he
   · rintro ⟨h1, h2⟩
     refine ⟨h1, fun j _ e => h2 ?_⟩
     rw [e]
 · exact hU.msub.trans (by rw [htm]; exact List.filter_sublist)
 · show x ∈ U.tms ↔ _
   rw [hU.tms, htm, List.mem_filter]
   constructor
   · rintro ⟨⟨h1, h2⟩, h3⟩
     refine ⟨h1, fun e => ?_⟩
     obtain ⟨_, R1, hR1, _, hat⟩ := h.tms x h1
     obtain ⟨⟨p1, p2, p3⟩, x2⟩ := x
     simp only at e hR1 hat h2 h3
     subst e
     rw [hR] at hR1
     injection hR1 with hR1
     subst hR1
     rcases hat with ⟨rfl, rfl⟩ | ⟨j, u, rfl, e2, e3⟩
     · simp at h2
     · have hj := h3 j (List.getElem?_eq_some_iff.1 e2).1
       rcases e3 with ⟨rfl, _⟩ | ⟨rfl, _⟩
       · exact hj.1 rfl
       · exact hj.2 rfl
   · rintro ⟨h1, h2⟩
     refine ⟨⟨h1, ?_⟩, fun j _ => ⟨fun e => h2 (by rw [e]), fun e => h2 (by rw [e])⟩⟩
     have : x.1 ≠ ⟨id, -1, 0⟩ := fun e => h2 (by rw [e])
     simpa using this
 · show U.CH.filter _ = _
   rw [hU.CH, hT]
   rfl
 · exact hU.now.trans (by rw [hT]; rfl)
 · exact hU.seed.trans (by rw [hT]; rfl)
 · exact hU.CD.trans (by rw [hT]; rfl)
 · exact hU.CC.trans (by rw [hT]; rfl)
 · exact hU.ends.trans (by rw [hT]; rfl)
 · exact hU.sets.trans (by rw [hT]; rfl)
theorem kS (s : Sp) : (eK s).state = 5 ∨ (eK s).state = 6 ∨ (eK s).state = 7 := by
 unfold eK
 split
 · omega
 · exact .inr (.inr rfl)
theorem oH (s : Sp) : (eK s).CE = s.CE := by
 unfold eK
 split <;> rfl
theorem uV (s : Sp) : (eK s).token = s.token := by
 unfold eK
 split <;> rfl
theorem Ok.ends {S U : En} (h : Ok S) {id : Nat} {R : Rn} (hR : S.getR id = some R) {st : Int} (hst : st ≠ 1) (he : Ended S U id st R) : Ok U := by
 obtain ⟨R', g1, g2, g3, g4, g5, g6⟩ := he.run
 have hr := h.run id R hR
 have hover : ∀ (j : Nat) (u : Sp), R'.CF[j]? = some u → ∃ s, R.CF[j]? = some s ∧ u = eK { s with token := 0 } := fun j u hj => by
  have hlt : j < R.CF.length := by rw [← g5]; exact (List.getElem?_eq_some_iff.1 hj).1
  have hs : R.CF[j]? = some R.CF[j] := List.getElem?_eq_getElem hlt
  have := g6 j _ hs
  rw [hj] at this
  injection this with this
  exact ⟨_, hs, this⟩
 have hstp : ∀ (a j : Nat), a ≠ id → U.stp a j = S.stp a j := fun a j ha => by
  unfold En.stp
  rw [he.others a ha]
 have hid : ∀ (j : Nat) (u : Sp), U.stp id j = some u → u.state = 5 ∨ u.state = 6 ∨ u.state = 7 := fun j u hj => by
  obtain ⟨R1, hR1, h4⟩ := iq hj
  rw [g1] at hR1
  injection hR1 with hR1
  subst hR1
  obtain ⟨s, _, rfl⟩ := hover j u h4
  exact kS _
 refine ⟨by rw [he.now]; exact h.now, by rw [he.seed]; exact h.seed, by rw [he.keys]; exact h.ids, by rw [he.keys, he.CD]; exact h.low, ?_, fun a Ra ha => ?_, gP h.tkeys he.tsub, fun t ht => ?_, fun t p => ?_, ?_, fun p => ?_, gP h.knd he.msub, fun x hx => ?_⟩
 · have := congrArg List.length he.keys
   simp only [List.length_map] at this
   have := h.six
   omega
 · rw [he.ends]
   by_cases hai : a = id
   · subst hai
     rw [g1] at ha
     injection ha with ha
     subst ha
     refine ⟨by rw [g2]; exact hr.fl, by rw [g5, g2]; exact hr.len, fun j u m hj hm => ?_, ?_, by rw [g4]; exact Nat.le_refl _⟩
     · obtain ⟨s, hs, rfl⟩ := hover j u hj
       rw [g2] at hm
       have hp := hr.sp j s m hs hm
       have h5 := kS { s with token := 0 }
       have h6 := oH { s with token := 0 }
       have h7 := uV { s with token := 0 }
       refine ⟨by omega, by omega, by rw [h6]; exact hp.tr0, by rw [h6]; exact hp.trb, fun e => by omega, fun e => by omega, fun e => by omega, fun _ => h7, fun e => ?_, fun _ => h5⟩
       rw [h6]
       refine hp.dead ?_
       unfold eK at e
       split at e
       · exact e
       · exact absurd (show (7 : Int) = 6 from e) (by decide)
     · rw [g3, g4]
       constructor
       · intro e; omega
       · intro e; exact absurd e hst
   · rw [he.others a hai] at ha
     exact (h.run a Ra ha).mono (Nat.le_succ _)
 · rw [he.CC]
   exact h.tlow t (he.tsub.subset ht)
 · rw [he.CI, h.CI]
   constructor
   · rintro ⟨⟨a, j, s, rfl, h1, h2, h3⟩, hne⟩
     exact ⟨a, j, s, rfl, by rw [hstp a j hne]; exact h1, h2, h3⟩
   · rintro ⟨a, j, s, rfl, h1, h2, h3⟩
     have hne : a ≠ id := by
      rintro rfl
      have := hid j s h1
      omega
     rw [hstp a j hne] at h1
     exact ⟨⟨a, j, s, rfl, h1, h2, h3⟩, hne⟩
 · rw [he.CH]
   exact h.qnd.sublist List.filter_sublist
 · rw [he.CH, List.mem_filter, h.CH]
   constructor
   · rintro ⟨⟨a, j, s, rfl, h1, h2⟩, hne⟩
     have hne' : a ≠ id := by simpa using hne
     exact ⟨a, j, s, rfl, by rw [hstp a j hne']; exact h1, h2⟩
   · rintro ⟨a, j, s, rfl, h1, h2⟩
     have hne : a ≠ id := by
      rintro rfl
      have := hid j s h1
      omega
     rw [hstp a j hne] at h1
     exact ⟨⟨a, j, s, rfl, h1, h2⟩, by simpa using hne⟩
 · obtain ⟨h1, h2⟩ := (he.tms x).1 hx
   obtain ⟨hb, R1, hR1, hat⟩ := h.tms x h1
   exact ⟨hb, R1, by rw [he.others _ h2]; exact hR1, hat⟩
theorem Ok.finish {S : En} (h : Ok S) {id : Nat} {R : Rn} (hR : S.getR id = some R) {st : Int} (hst : st ≠ 1) : Ok (S.finish id st) := h.ends hR hst (h.ended hR st)
theorem Ok.settle {S : En} (h : Ok S) (id : Nat) : Ok (S.settle id) := by
 unfold En.settle
 split
 · rename_i R hR
   split
   · exact h.finish hR (by split <;> decide)
   · exact h
 · exact h
theorem lZ (h : Ok S) (hR : S.getR id = some R) : S.setR id R = S := by
 have : (S.runs.map fun r => if r.1 == id then (r.1, R) else r) = S.runs := by
  have hm : ∀ r ∈ S.runs, (if r.1 == id then (r.1, R) else r) = r := fun r hr => by
   by_cases he : r.1 = id
   · have h1 : (id, R) ∈ S.runs := by
      unfold En.getR at hR
      cases hf : S.runs.find? (·.1 == id) with
      | none => rw [hf] at hR; cases hR
      | some x =>
       rw [hf] at hR
       injection hR with hR
       have h2 := List.mem_of_find?_eq_some hf
       have h3 := List.find?_some hf
       obtain ⟨x1, x2⟩ := x
       have : x1 = id := by simpa using h3
       subst this
       have : x2 = R := hR
       subst this
       exact h2
     have := ea h.ids hr h1 he
     rw [this]
     simp
   · simp [he]
  conv => rhs; rw [← List.map_id S.runs]
  exact List.map_congr_left hm
 unfold En.setR
 rw [this]
theorem Ok.skip1 (h : Ok S) (hR : S.getR id = some R) (k : Nat) : Ok (S.setR id { R with CF := bY R.fl.CG R.CF k }) := by
 unfold bY
 split
 · rename_i s n hs hn
   split
   · rename_i hc
     have hp := (h.run id R hR).sp k s n hs hn
     have hrun := hp.running (by omega)
     have h0 := hp.idle (by omega)
     refine h.turn (S' := S.setR id { R with CF := R.CF.set k { s with state := 7 } }) (s' := { s with state := 7 }) hR hs hn h.now rfl setR_keys rfl rfl (iS hR) ?_ h.tkeys h.tlow ?_ h.qnd ?_ h.knd ?_
     · exact ⟨by show (1 : Int) ≤ 7; omega, by show (7 : Int) ≤ 7; omega, hp.tr0, hp.trb, fun e => by replace e : (7 : Int) = 1 ∨ (7 : Int) = 2 ∨ (7 : Int) = 4 := e; omega, fun e => by replace e : (7 : Int) = 1 := e; omega, fun e => by replace e : (7 : Int) = 3 := e; omega, fun _ => h0, fun e => by replace e : (7 : Int) = 6 := e; omega, fun e => absurd hrun e⟩
     · intro t p
       show (t, p) ∈ S.CI ↔ _
       constructor
       · intro hm
         refine .inl ⟨hm, ?_⟩
         rintro rfl
         obtain ⟨a, j, u, e, h1, h2, h4⟩ := (h.CI _ _).1 hm
         obtain ⟨rfl, rfl, _⟩ := gA e
         rw [fC hR hs] at h1
         injection h1 with h1
         subst h1
         omega
       · rintro (⟨hm, hne⟩ | ⟨e, _⟩)
         · exact hm
         · replace e : (7 : Int) = 3 := e
           omega
     · intro p
       show p ∈ S.CH ↔ _
       constructor
       · intro hm
         refine .inl ⟨hm, ?_⟩
         rintro rfl
         obtain ⟨a, j, u, e, h1, h2⟩ := (h.CH _).1 hm
         obtain ⟨rfl, rfl, _⟩ := gA e
         rw [fC hR hs] at h1
         injection h1 with h1
         subst h1
         omega
       · rintro (⟨hm, _⟩ | ⟨e, _⟩)
         · exact hm
         · replace e : (7 : Int) = 2 := e
           omega
     · intro x hx
       obtain ⟨_, R1, hR1, _, hat⟩ := h.tms x hx
       have hx1 : x.1.run = id → x.1.node = (k : Int) → x.1.what = 1 ∨ x.1.what = 2 → False := fun e1 e2 e3 => by
        rw [e1, hR] at hR1
        injection hR1 with hR1
        subst hR1
        rcases hat with ⟨e4, _⟩ | ⟨j, u, e4, e5, e6⟩
        · omega
        · have : k = j := by omega
          subst this
          rw [hs] at e5
          injection e5 with e5
          subst e5
          omega
       refine .inl ⟨hx, fun e => ?_, fun e => ?_⟩
       · exact (hx1 (by rw [e]) (by rw [e]) (by rw [e]; exact .inl rfl)).elim
       · exact (hx1 (by rw [e]) (by rw [e]) (by rw [e]; exact .inr rfl)).elim
   · rw [show ({ R with CF := R.CF } : Rn) = R from rfl, lZ h hR]; exact h
 · rw [show ({ R with CF := R.CF } : Rn) = R from rfl, lZ h hR]; exact h
theorem Ok.skips {id : Nat} : ∀ (T : List Nat) {S : En} (_ : Ok S) {R : Rn} (_ : S.getR id = some R), Ok (S.setR id (R.skips T))
 | [], S, h, R, hR => by
  show Ok (S.setR id R)
  rw [lZ h hR]
  exact h
 | k :: T, S, h, R, hR => by
  have h1 := h.skip1 hR k
  have := Ok.skips T h1 (ch hR)
  rw [ed] at this
  exact this
theorem ki {R' : Rn} (hR : S.getR id = some R) (hs : R.CF[k]? = some s) : ((S.leave id k).setR id R').getR id = some R' := ch (f7 hR hs)
theorem Ok.rests {S : En} (h : Ok S) {id k : Nat} {R : Rn} {s : Sp} {n : Node} (hR : S.getR id = some R) (hs : R.CF[k]? = some s) (hn : R.fl.CG[k]? = some n) (h3 : s.state = 3) (hb : s.CE < n.CJ) (wait : Nat) : Ok (S.rests id k R s wait) := by
 have h1 := h.part hR hs hn h3 (st := 4) (.inr (.inl ⟨rfl, hb⟩))
 have hrun := ((h.run id R hR).sp k s n hs hn).running (by omega)
 have hg : ((S.leave id k).setR id (R.turned k s 4)).getR id = some (R.turned k s 4) := ki hR hs
 exact h1.setT (jP _ _) hg ⟨hrun, .inr ⟨k, _, rfl, cv (cv hs), .inl ⟨rfl, .inr rfl⟩⟩⟩
theorem Ok.dies {S : En} (h : Ok S) {id k : Nat} {R : Rn} {s : Sp} {n : Node} (hR : S.getR id = some R) (hs : R.CF[k]? = some s) (hn : R.fl.CG[k]? = some n) (h3 : s.state = 3) (hb : s.CE = n.CJ) (T : List Nat) : Ok (S.dies id k R s T) := by
 have h1 := h.part hR hs hn h3 (st := 6) (.inr (.inr ⟨rfl, hb⟩))
 have h2 := Ok.skips (id := id) T h1 (ki hR hs)
 rw [ed] at h2
 exact h2.settle id
theorem mS {t : Nat} (ht : (S.CI.find? (·.1 == t)).map (·.2) = some ⟨id, (k : Int), 0⟩) (hR : S.getR id = some R) (hs : R.CF[k]? = some s) : S.complete t = (((S.leave id k).setR id (R.turned k s 5)).wake id).settle id := by
 unfold En.complete
 rw [ht]
 simp only [Int.toNat_natCast]
 rw [nw _ (f7 hR hs) (cv hs)]
 rfl
theorem Ok.find {S : En} (h : Ok S) {t : Nat} {p : Pl} (ht : (S.CI.find? (·.1 == t)).map (·.2) = some p) : ∃ (id k : Nat) (R : Rn) (s : Sp) (n : Node), p = ⟨id, (k : Int), 0⟩ ∧ S.getR id = some R ∧ R.CF[k]? = some s ∧ R.fl.CG[k]? = some n ∧ s.state = 3 ∧ s.token = t := by
 cases hf : S.CI.find? (·.1 == t) with
 | none => rw [hf] at ht; cases ht
 | some x =>
  rw [hf] at ht
  injection ht with ht
  have h2 := List.mem_of_find?_eq_some hf
  have h3 := List.find?_some hf
  obtain ⟨x1, x2⟩ := x
  have : x1 = t := by simpa using h3
  subst this
  have : x2 = p := ht
  subst this
  obtain ⟨id, k, s, e, h4, h5, h6⟩ := (h.CI _ _).1 h2
  obtain ⟨R, hR, hs⟩ := iq h4
  obtain ⟨n, hn, _⟩ := h.node hR hs
  exact ⟨id, k, R, s, n, e, hR, hs, hn, h5, h6⟩
theorem Ok.complete {S : En} (h : Ok S) (t : Nat) : Ok (S.complete t) := by
 cases hf : (S.CI.find? (·.1 == t)).map (·.2) with
 | none => unfold En.complete; rw [hf]; exact h
 | some p =>
  obtain ⟨id, k, R, s, n, rfl, hR, hs, hn, h3, _⟩ := h.find hf
  rw [mS hf hR hs]
  exact ((h.part hR hs hn h3 (st := 5) (.inl rfl)).wake id).settle id
theorem qD {q : List Pl} {n : Node} : S.hand ⟨id, (k : Int), 0⟩ q R s n = (((S.handT id k q R s).setT ⟨id, (k : Int), 1⟩ (S.later n.close.toNat)).life ⟨id, (k : Int), 0⟩ n) := by
 unfold En.hand En.handT
 simp only [Int.toNat_natCast]
 rfl
theorem Ok.hand {S : En} (h : Ok S) {id k : Nat} {q : List Pl} (hq : S.CH = ⟨id, (k : Int), 0⟩ :: q) {R : Rn} {s : Sp} {n : Node} (hR : S.getR id = some R) (hs : R.CF[k]? = some s) (hn : R.fl.CG[k]? = some n) : Ok (S.hand ⟨id, (k : Int), 0⟩ q R s n) := by
 obtain ⟨h2, hk⟩ := h.handT hq hR hs hn
 rw [qD]
 have hrun := ((h.run id R hR).sp k s n hs hn).running (by omega)
 have hg : (S.handT id k q R s).getR id = some (R.setS k ⟨3, s.CE + 1, S.CC + 1⟩) := ch hR
 exact Ok.life (hk.setT (R := R.setS k ⟨3, s.CE + 1, S.CC + 1⟩) (jP _ _) hg ⟨hrun, .inr ⟨k, _, rfl, cv hs, .inl ⟨rfl, .inl rfl⟩⟩⟩) n hg (cv hs) rfl
end
end FK
