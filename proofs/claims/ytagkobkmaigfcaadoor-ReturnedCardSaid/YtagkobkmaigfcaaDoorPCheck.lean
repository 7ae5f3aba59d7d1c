/- Plain laws on flows: what is wrong with a flow; its bytes. -/
import Derived.Test.YtagkobkmaigfcaaDoorPFlow
namespace FK

def span (n low : Int) : Prop := low ≤ n ∧ n ≤ 1048576
instance (n low : Int) : Decidable (span n low) := inferInstanceAs (Decidable (_ ∧ _))

def NodeOk (n : Node) : Prop := 1 ≤ n.budget ∧ n.budget ≤ 5 ∧ span n.close 1 ∧ span n.beat 0 ∧ span n.base 1 ∧ span n.cap n.base ∧ span n.jitter 0

/-- nodes of the flow that rise -/
def EdgesOk (len : Nat) : Int → List Int → Prop
  | _, [] => True
  | p, k :: r => p < k ∧ k < len ∧ EdgesOk len k r

def HeadOk (f : Flow) : Prop := span f.deadline 1 ∧ 1 ≤ f.nodes.length ∧ f.nodes.length ≤ 12

def OkTo (f : Flow) (i : Nat) : Prop := ∀ j n, j < i → f.nodes[j]? = some n → NodeOk n ∧ EdgesOk f.nodes.length (-1) n.after

inductive Checked (f : Flow) : Int → Int → Prop where
  | head (h : ¬ HeadOk f) : Checked f 2 (-1)
  | bound (i : Nat) (n : Node) (h : HeadOk f) (ho : OkTo f i) (hn : f.nodes[i]? = some n) (hb : ¬ NodeOk n) : Checked f 2 i
  | edge (i : Nat) (n : Node) (h : HeadOk f) (ho : OkTo f i) (hn : f.nodes[i]? = some n) (hb : NodeOk n) (he : ¬ EdgesOk f.nodes.length (-1) n.after) : Checked f 3 i
  | cycle (i : Nat) (h : HeadOk f) (ho : OkTo f f.nodes.length) (hi : i < f.nodes.length) (hn : ¬ Ac f.nodes i) (hl : ∀ j, j < i → Ac f.nodes j) : Checked f 4 i
  | ok (h : HeadOk f) (ho : OkTo f f.nodes.length) (ha : ∀ i, i < f.nodes.length → Ac f.nodes i) : Checked f 0 (-1)

theorem lt_of_some {α : Type} {l : List α} {i : Nat} {x : α} (h : l[i]? = some x) : i < l.length := (List.getElem?_eq_some_iff.1 h).1

/-- where the first fault lies -/
theorem first_fault {f : Flow} {i j : Nat} {n m : Node} (hi : OkTo f i) (hj : OkTo f j) (hn : f.nodes[i]? = some n) (hm : f.nodes[j]? = some m)
    (bi : ¬ (NodeOk n ∧ EdgesOk f.nodes.length (-1) n.after)) (bj : ¬ (NodeOk m ∧ EdgesOk f.nodes.length (-1) m.after)) : i = j := by
  rcases Nat.lt_trichotomy i j with h | h | h
  · exact absurd (hj i n h hn) bi
  · exact h
  · exact absurd (hi j m h hm) bj

theorem Checked.unique {f : Flow} {e a e' a' : Int} (h : Checked f e a) (h' : Checked f e' a') : e = e' ∧ a = a' := by
  cases h with
  | head h => cases h' <;> first | exact ⟨rfl, rfl⟩ | contradiction
  | bound i n h ho hn hb =>
    have b1 : ¬ (NodeOk n ∧ EdgesOk f.nodes.length (-1) n.after) := fun x => hb x.1
    cases h' with
    | head h' => contradiction
    | bound j m _ ho' hm hb' => obtain rfl := first_fault ho ho' hn hm b1 (fun x => hb' x.1); exact ⟨rfl, rfl⟩
    | edge j m _ ho' hm hb' he =>
      obtain rfl := first_fault ho ho' hn hm b1 (fun x => he x.2)
      rw [hn] at hm; cases hm; contradiction
    | cycle j _ ho' => exact absurd (ho' i n (lt_of_some hn) hn) b1
    | ok _ ho' => exact absurd (ho' i n (lt_of_some hn) hn) b1
  | edge i n h ho hn hb he =>
    have b1 : ¬ (NodeOk n ∧ EdgesOk f.nodes.length (-1) n.after) := fun x => he x.2
    cases h' with
    | head h' => contradiction
    | bound j m _ ho' hm hb' =>
      obtain rfl := first_fault ho ho' hn hm b1 (fun x => hb' x.1)
      rw [hn] at hm; cases hm; contradiction
    | edge j m _ ho' hm hb' he' => obtain rfl := first_fault ho ho' hn hm b1 (fun x => he' x.2); exact ⟨rfl, rfl⟩
    | cycle j _ ho' => exact absurd (ho' i n (lt_of_some hn) hn) b1
    | ok _ ho' => exact absurd (ho' i n (lt_of_some hn) hn) b1
  | cycle i h ho hi hn hl =>
    cases h' with
    | head h' => contradiction
    | bound j m _ ho' hm hb' => exact absurd (ho j m (lt_of_some hm) hm).1 hb'
    | edge j m _ ho' hm hb' he => exact absurd (ho j m (lt_of_some hm) hm).2 he
    | cycle j _ _ hj hn' hl' =>
      rcases Nat.lt_trichotomy i j with h | h | h
      · exact absurd (hl' i h) hn
      · subst h; exact ⟨rfl, rfl⟩
      · exact absurd (hl j h) hn'
    | ok _ _ ha => exact absurd (ha i hi) hn
  | ok h ho ha =>
    cases h' with
    | head h' => contradiction
    | bound j m _ ho' hm hb' => exact absurd (ho j m (lt_of_some hm) hm).1 hb'
    | edge j m _ ho' hm hb' he => exact absurd (ho j m (lt_of_some hm) hm).2 he
    | cycle j _ _ hj hn' _ => exact absurd (ha j hj) hn'
    | ok => exact ⟨rfl, rfl⟩

open Classical in
/-- what is wrong with a flow: the error and the place -/
noncomputable def chk (f : Flow) : Int × Int := if h : ∃ p : Int × Int, Checked f p.1 p.2 then choose h else (0, 0)

theorem Checked.chk {f : Flow} {e a : Int} (h : Checked f e a) : chk f = (e, a) := by
  have hx : ∃ p : Int × Int, Checked f p.1 p.2 := ⟨(e, a), h⟩
  unfold FK.chk
  rw [dif_pos hx]
  have hc := Classical.choose_spec hx
  have ⟨h1, h2⟩ := hc.unique h
  exact Prod.ext h1 h2

theorem aft_of {l : List Node} {i : Nat} {n : Node} (h : l[i]? = some n) : aft l i = n.after.map Int.toNat := by simp [aft, h]

theorem EdgesOk.bounds {len : Nat} : ∀ {p : Int} {l : List Int}, EdgesOk len p l → ∀ k ∈ l, p < k ∧ k < len := by
  intro p l
  induction l generalizing p with
  | nil => intro _ k hk; simp at hk
  | cons a l ih =>
    intro ⟨h1, h2, h3⟩ k hk
    simp at hk
    rcases hk with rfl | hk
    · exact ⟨h1, h2⟩
    · have := ih h3 k hk; omega

theorem OkTo.aft_lt {f : Flow} (h : OkTo f f.nodes.length) (i : Nat) : ∀ k ∈ aft f.nodes i, k < f.nodes.length := by
  intro k hk
  unfold aft at hk
  split at hk
  · rename_i n hn
    simp at hk
    obtain ⟨x, hx, rfl⟩ := hk
    have := (h i n (lt_of_some hn) hn).2.bounds x hx
    omega
  · simp at hk

theorem EdgesOk.length_le {len : Nat} : ∀ {p : Int} {l : List Int}, EdgesOk len p l → -1 ≤ p → l.length + (p + 1).toNat ≤ len ∨ l = [] := by
  intro p l
  induction l generalizing p with
  | nil => intro _ _; exact .inr rfl
  | cons a l ih =>
    intro ⟨h1, h2, h3⟩ hp
    left
    rcases ih h3 (by omega) with h | h
    · simp; omega
    · subst h; simp; omega

theorem least {p : Nat → Prop} {n : Nat} (h : p n) : ∃ m, m ≤ n ∧ p m ∧ ∀ j, j < m → ¬ p j := by
  induction n using Nat.strongRecOn with
  | _ n ih =>
    by_cases hx : ∃ j, j < n ∧ p j
    · obtain ⟨j, hj, hp⟩ := hx
      obtain ⟨m, h1, h2, h3⟩ := ih j hj hp
      exact ⟨m, by omega, h2, h3⟩
    · exact ⟨n, Nat.le_refl _, h, fun j hj hp => hx ⟨j, hj, hp⟩⟩

theorem Checked.total (f : Flow) : ∃ e a, Checked f e a := by
  by_cases hh : HeadOk f
  · by_cases ho : OkTo f f.nodes.length
    · by_cases ha : ∃ i, i < f.nodes.length ∧ ¬ Ac f.nodes i
      · obtain ⟨i, hi⟩ := ha
        obtain ⟨m, h1, h2, h3⟩ := least (p := fun i => i < f.nodes.length ∧ ¬ Ac f.nodes i) hi
        exact ⟨_, _, .cycle m hh ho h2.1 h2.2 fun j hj => Classical.byContradiction fun hn => h3 j hj ⟨by omega, hn⟩⟩
      · exact ⟨_, _, .ok hh ho fun i hi => Classical.byContradiction fun hn => ha ⟨i, hi, hn⟩⟩
    · have hx : ∃ i : Nat, ∃ n, f.nodes[i]? = some n ∧ ¬ (NodeOk n ∧ EdgesOk f.nodes.length (-1) n.after) := by
        apply Classical.byContradiction
        intro hn
        exact ho fun j n _ hj => Classical.byContradiction fun hb => hn ⟨j, n, hj, hb⟩
      obtain ⟨i, hi⟩ := hx
      obtain ⟨m, _, ⟨n, h1, h2⟩, h3⟩ := least (p := fun i : Nat => ∃ n, f.nodes[i]? = some n ∧ ¬ (NodeOk n ∧ EdgesOk f.nodes.length (-1) n.after)) hi
      have hok : OkTo f m := fun j x hj hx => Classical.byContradiction fun hb => h3 j hj ⟨x, hx, hb⟩
      by_cases hb : NodeOk n
      · exact ⟨_, _, .edge m n hh hok h1 hb fun he => h2 ⟨hb, he⟩⟩
      · exact ⟨_, _, .bound m n hh hok h1 hb⟩
  · exact ⟨_, _, .head hh⟩

theorem chk_checked (f : Flow) : Checked f (chk f).1 (chk f).2 := by
  obtain ⟨e, a, h⟩ := Checked.total f
  rw [h.chk]; exact h

/-- a flow that is one -/
structure Fit (f : Flow) : Prop where
  head : HeadOk f
  nodes : OkTo f f.nodes.length
  ac : ∀ i, i < f.nodes.length → Ac f.nodes i

theorem chk_zero {f : Flow} (h : (chk f).1 = 0) : Fit f := by
  have hc := chk_checked f
  rw [h] at hc
  generalize (chk f).2 = a at hc
  generalize he : (0 : Int) = e at hc
  cases hc with
  | ok h ho ha => exact ⟨h, ho, ha⟩
  | _ => omega

theorem Fit.chk {f : Flow} (h : Fit f) : chk f = (0, -1) := (Checked.ok h.head h.nodes h.ac).chk

theorem chk_range (f : Flow) : (chk f).1 = 0 ∧ (chk f).2 = -1 ∨ (chk f).1 = 2 ∨ (chk f).1 = 3 ∨ (chk f).1 = 4 := by
  have hc := chk_checked f
  generalize (chk f).1 = e at hc ⊢
  generalize (chk f).2 = a at hc ⊢
  cases hc <;> omega

/-! ### numbers -/

/-- seven bits at a time -/
def encN (n : Nat) : List UInt8 := if n < 128 then [UInt8.ofNat n] else UInt8.ofNat (n % 128 + 128) :: encN (n / 128)
termination_by n

def encNode (n : Node) : List UInt8 :=
  encN n.budget.toNat ++ encN n.close.toNat ++ encN n.beat.toNat ++ encN n.base.toNat ++ encN n.cap.toNat ++ encN n.jitter.toNat ++ encN n.after.length ++ n.after.flatMap fun k => encN k.toNat

def encFlow (f : Flow) : List UInt8 := encN f.deadline.toNat ++ encN f.nodes.length ++ f.nodes.flatMap encNode

/-- a number at a place: what it is, and the place behind it; or the place of a number that is none -/
def rd (b : List UInt8) (p : Nat) : Except Nat (Nat × Nat) :=
  match b[p]? with
  | none => .error p
  | some c => if c.toNat < 128 then .ok (c.toNat, p + 1) else
    match b[p + 1]? with
    | none => .error p
    | some d => if d.toNat < 128 then (if d.toNat = 0 then .error p else .ok (c.toNat % 128 + d.toNat * 128, p + 2)) else
      match b[p + 2]? with
      | none => .error p
      | some e => if e.toNat < 128 then (if e.toNat = 0 then .error p else .ok (c.toNat % 128 + d.toNat % 128 * 128 + e.toNat * 16384, p + 3)) else .error p

abbrev Rd (α : Type) := Nat → Except Nat (α × Nat)

/-- so many more behind what there is -/
def many {α : Type} (r : Rd α) : Nat → List α → Rd (List α)
  | 0, l, p => .ok (l, p)
  | n + 1, l, p => match r p with
    | .error e => .error e
    | .ok (x, p') => many r n (l ++ [x]) p'

def rdInt (b : List UInt8) : Rd Int := fun p => match rd b p with
  | .error e => .error e
  | .ok (n, p') => .ok ((n : Int), p')

def rdList {α : Type} (b : List UInt8) (r : Rd α) : Rd (List α) := fun p => match rd b p with
  | .error e => .error e
  | .ok (n, p') => many r n [] p'

def andThen {α β : Type} (r : Except Nat (α × Nat)) (k : α → Rd β) : Except Nat (β × Nat) := match r with
  | .error e => .error e
  | .ok (x, p) => k x p

def rdNode (b : List UInt8) : Rd Node := fun p =>
  andThen (rdInt b p) fun budget p => andThen (rdInt b p) fun close p => andThen (rdInt b p) fun beat p => andThen (rdInt b p) fun base p =>
  andThen (rdInt b p) fun cap p => andThen (rdInt b p) fun jitter p => andThen (rdList b (rdInt b) p) fun after p => .ok (⟨budget, close, beat, base, cap, jitter, after⟩, p)

def rdFlow (b : List UInt8) : Rd Flow := fun p =>
  andThen (rdInt b p) fun deadline p => andThen (rdList b (rdNode b) p) fun nodes p => .ok (⟨deadline, nodes⟩, p)

/-- the flow of bytes; or the error and the place -/
noncomputable def dec (b : List UInt8) : Except (Int × Int) Flow := match rdFlow b 0 with
  | .error e => .error (1, (e : Int))
  | .ok (f, p) => if p < b.length then .error (1, (p : Int)) else if (chk f).1 = 0 then .ok f else .error (chk f)

end FK
