/- A small logic of what memory a walk holds: facts on blocks that stand apart from one another; what the slots of a frame hold; and one judgement, 'At', over both. -/
import Derived.WalkKit
import Derived.WalkLawsBesides
import Derived.WalkSpells
import Derived.WalkSmall
import Derived.Laws.OwnMore
import Derived.Maps.AppendAt
import Derived.Orders
import Derived.ScopeJumps
namespace Go.SL
open Go Go.RowKit
structure Env where
  os : Os
  tape : Nat → Question → Nat
  output : Array (Nat × ByteArray)
  fixed : List (Nat × Obj)
def Env.free (E : Env) (w : World) (k : Nat) : Prop := k < w.heap.size ∧ ∀ p ∈ E.fixed, p.1 ≠ k
structure HP where
  sat : World → (Nat → Prop) → Prop
  loc : ∀ {w w' : World} {F G : Nat → Prop}, (∀ k, F k → G k) → (∀ k, F k → w'.heap[k]? = w.heap[k]?) → sat w F → sat w' G
def Star (w : World) : List HP → (Nat → Prop) → Prop
  | [], _ => True
  | p :: l, F => ∃ F1 F2 : Nat → Prop, (∀ k, F1 k → F k) ∧ (∀ k, F2 k → F k) ∧ (∀ k, F1 k → F2 k → False) ∧ p.sat w F1 ∧ Star w l F2
theorem Star.loc {w w' : World} {l : List HP} : ∀ {F G : Nat → Prop}, (∀ k, F k → G k) → (∀ k, F k → w'.heap[k]? = w.heap[k]?) → Star w l F → Star w' l G := by
  induction l with
  | nil => exact fun _ _ _ => trivial
  | cons p l ih =>
    intro F G hFG hk ⟨F1, F2, h1, h2, hd, hp, hl⟩
    exact ⟨F1, F2, fun k h => hFG k (h1 k h), fun k h => hFG k (h2 k h), hd, p.loc (fun _ h => h) (fun k h => hk k (h1 k h)) hp, ih (fun _ h => h) (fun k h => hk k (h2 k h)) hl⟩
theorem Star.mono {w : World} {l : List HP} {F G : Nat → Prop} (h : ∀ k, F k → G k) (s : Star w l F) : Star w l G := s.loc h fun _ _ => rfl
theorem Star.swap {w : World} {p q : HP} {l : List HP} {F : Nat → Prop} (h : Star w (p :: q :: l) F) : Star w (q :: p :: l) F := by
  obtain ⟨F1, F2, h1, h2, hd, hp, F3, F4, h3, h4, hd', hq, hl⟩ := h
  refine ⟨F3, fun k => F1 k ∨ F4 k, fun k h => h2 k (h3 k h), fun k h => h.elim (h1 k) (fun h => h2 k (h4 k h)), ?_, hq, F1, F4, fun k h => .inl h, fun k h => .inr h, fun k a b => hd k a (h4 k b), hp, hl⟩
  intro k a b
  rcases b with b | b
  · exact hd k b (h3 k a)
  · exact hd' k a b
theorem Star.perm {w : World} {l m : List HP} (h : l.Perm m) : ∀ {F : Nat → Prop}, Star w l F → Star w m F := by
  induction h with
  | nil => exact fun h => h
  | cons x _ ih => exact fun ⟨F1, F2, h1, h2, hd, hp, hl⟩ => ⟨F1, F2, h1, h2, hd, hp, ih hl⟩
  | swap x y l => exact fun h => h.swap
  | trans _ _ ih1 ih2 => exact fun h => ih2 (ih1 h)
theorem Star.append {w : World} : ∀ {l m : List HP} {F : Nat → Prop}, Star w (l ++ m) F → ∃ F1 F2 : Nat → Prop, (∀ k, F1 k → F k) ∧ (∀ k, F2 k → F k) ∧ (∀ k, F1 k → F2 k → False) ∧ Star w l F1 ∧ Star w m F2
  | [], m, F, h => ⟨fun _ => False, F, fun _ h => h.elim, fun _ h => h, fun _ h => h.elim, trivial, h⟩
  | p :: l, m, F, h => by
    obtain ⟨F1, F2, h1, h2, hd, hp, hl⟩ := h
    obtain ⟨G1, G2, g1, g2, gd, gl, gm⟩ := Star.append (l := l) (m := m) hl
    refine ⟨fun k => F1 k ∨ G1 k, G2, fun k h => h.elim (h1 k) (fun h => h2 k (g1 k h)), fun k h => h2 k (g2 k h), ?_, ⟨F1, G1, fun k h => .inl h, fun k h => .inr h, fun k a b => hd k a (g1 k b), hp, gl⟩, gm⟩
    intro k a b
    rcases a with a | a
    · exact hd k a (g2 k b)
    · exact gd k a b
theorem Star.join {w : World} {m : List HP} : ∀ {l : List HP} {F F1 F2 : Nat → Prop}, (∀ k, F1 k → F k) → (∀ k, F2 k → F k) → (∀ k, F1 k → F2 k → False) → Star w l F1 → Star w m F2 → Star w (l ++ m) F
  | [], F, F1, F2, _, h2, _, _, hm => hm.mono h2
  | p :: l, F, F1, F2, h1, h2, hd, ⟨G1, G2, g1, g2, gd, hp, hl⟩, hm => by
    refine ⟨G1, fun k => G2 k ∨ F2 k, fun k h => h1 k (g1 k h), fun k h => h.elim (fun h => h1 k (g2 k h)) (h2 k), ?_, hp, Star.join (fun k h => .inl h) (fun k h => .inr h) (fun k a b => hd k (g2 k a) b) hl hm⟩
    intro k a b
    rcases b with b | b
    · exact gd k a b
    · exact hd k (g1 k a) b
inductive Sel (p : HP) : List HP → List HP → Prop where
  | head {l : List HP} : Sel p (p :: l) l
  | tail {q : HP} {l r : List HP} : Sel p l r → Sel p (q :: l) (q :: r)
theorem Sel.perm {p : HP} {l r : List HP} (h : Sel p l r) : l.Perm (p :: r) := by
  induction h with
  | head => exact List.Perm.refl _
  | tail _ ih => exact (List.Perm.cons _ ih).trans (List.Perm.swap _ _ _)
structure Env.is (E : Env) (w : World) : Prop where
  os : w.os = E.os
  tape : w.tape = E.tape
  output : w.output = E.output
  fixed : ∀ p ∈ E.fixed, w.heap[p.1]? = some p.2
structure Holds (E : Env) (w : World) (l : List HP) : Prop where
  is : E.is w
  star : Star w l (E.free w)
theorem Holds.perm {E : Env} {w : World} {l m : List HP} (h : Holds E w l) (p : l.Perm m) : Holds E w m := ⟨h.is, h.star.perm p⟩
def ob (b : Nat) (o : Obj) : HP where
  sat w F := F b ∧ w.heap[b]? = some o
  loc hFG hk h := ⟨hFG _ h.1, (hk _ h.1).trans h.2⟩
abbrev blk (b : Nat) (t : TypeId) (cs : Array Value) : HP := ob b (.cells cs t)
def old (E : Env) (w0 : World) : HP where
  sat w F := ∀ k, E.free w0 k → F k ∧ w.heap[k]? = w0.heap[k]?
  loc hFG hk h := fun k hlt => ⟨hFG _ (h k hlt).1, (hk _ (h k hlt).1).trans (h k hlt).2⟩
namespace HP
def ex {α : Sort _} (f : α → HP) : HP where
  sat w F := ∃ x, (f x).sat w F
  loc hFG hk h := let ⟨x, h⟩ := h; ⟨x, (f x).loc hFG hk h⟩
def pure (p : Prop) : HP where
  sat _ _ := p
  loc _ _ h := h
def all (l : List HP) : HP where
  sat w F := Star w l F
  loc hFG hk h := h.loc hFG hk
end HP
def Ent (l m : List HP) : Prop := ∀ w F, Star w l F → Star w m F
theorem Ent.refl (l : List HP) : Ent l l := fun _ _ h => h
theorem Ent.trans {a b c : List HP} (h : Ent a b) (k : Ent b c) : Ent a c := fun w F s => k w F (h w F s)
theorem Ent.perm {a b : List HP} (h : a.Perm b) : Ent a b := fun _ _ s => s.perm h
theorem Ent.cons {p : HP} {a b : List HP} (h : Ent a b) : Ent (p :: a) (p :: b) := fun w _ ⟨F1, F2, h1, h2, hd, hp, hl⟩ => ⟨F1, F2, h1, h2, hd, hp, h w F2 hl⟩
theorem Ent.append {a b : List HP} (h : Ent a b) (c : List HP) : Ent (a ++ c) (b ++ c) := fun w F s => by
  obtain ⟨F1, F2, h1, h2, hd, ha, hc⟩ := s.append
  exact Star.join h1 h2 hd (h w F1 ha) hc
theorem Ent.drop {p : HP} {a : List HP} : Ent (p :: a) a := fun _ _ ⟨_, _, _, h2, _, _, hl⟩ => hl.mono h2
theorem Ent.nil {a : List HP} : Ent a [] := fun _ _ _ => trivial
theorem Ent.ex {α : Sort _} {f : α → HP} (x : α) {a : List HP} : Ent (f x :: a) (HP.ex f :: a) := fun _ _ ⟨F1, F2, h1, h2, hd, hp, hl⟩ => ⟨F1, F2, h1, h2, hd, ⟨x, hp⟩, hl⟩
theorem Ent.pure {p : Prop} (hp : p) {a : List HP} : Ent a (HP.pure p :: a) := fun _ F s => ⟨fun _ => False, F, fun _ h => h.elim, fun _ h => h, fun _ h => h.elim, hp, s⟩
theorem Ent.all {m a : List HP} : Ent (m ++ a) (HP.all m :: a) := fun _ _ s => by
  obtain ⟨F1, F2, h1, h2, hd, ha, hc⟩ := s.append
  exact ⟨F1, F2, h1, h2, hd, ha, hc⟩
theorem Ent.unall {m a : List HP} : Ent (HP.all m :: a) (m ++ a) := fun _ _ ⟨_, _, h1, h2, hd, hp, hl⟩ => Star.join h1 h2 hd hp hl
theorem Holds.ent {E : Env} {w : World} {l m : List HP} (h : Holds E w l) (e : Ent l m) : Holds E w m := ⟨h.is, e _ _ h.star⟩
theorem Holds.sel {E : Env} {w : World} {l r : List HP} {p : HP} (h : Holds E w l) (s : Sel p l r) : Holds E w (p :: r) := h.perm s.perm
theorem Holds.ob {E : Env} {w : World} {l r : List HP} {b : Nat} {o : Obj} (h : Holds E w l) (s : Sel (ob b o) l r) : w.heap[b]? = some o ∧ b < w.heap.size := by
  obtain ⟨F1, F2, h1, _, _, hp, _⟩ := (h.sel s).star
  exact ⟨hp.2, (h1 _ hp.1).1⟩
theorem Env.is.set {E : Env} {w w' : World} (h : E.is w) (hos : w'.os = w.os) (ht : w'.tape = w.tape) (ho : w'.output = w.output) (hk : ∀ p ∈ E.fixed, w'.heap[p.1]? = w.heap[p.1]?) : E.is w' :=
  ⟨hos.trans h.os, ht.trans h.tape, ho.trans h.output, fun p hp => (hk p hp).trans (h.fixed p hp)⟩
theorem Env.is.lt {E : Env} {w : World} (h : E.is w) {p : Nat × Obj} (hp : p ∈ E.fixed) : p.1 < w.heap.size := (Array.getElem?_eq_some_iff.1 (h.fixed p hp)).1
theorem Holds.turn {E : Env} {w w' : World} {p q : HP} {r : List HP} (h : Holds E w (p :: r)) (hos : w'.os = w.os) (ht : w'.tape = w.tape) (ho : w'.output = w.output) (hz : w.heap.size ≤ w'.heap.size)
    (step : ∀ F1 : Nat → Prop, p.sat w F1 → (∀ k, F1 k → E.free w k) → ∃ G1 : Nat → Prop, (∀ k, G1 k → (F1 k ∨ w.heap.size ≤ k) ∧ k < w'.heap.size) ∧ q.sat w' G1 ∧ ∀ k, k < w.heap.size → ¬ F1 k → w'.heap[k]? = w.heap[k]?) : Holds E w' (q :: r) := by
  obtain ⟨F1, F2, h1, h2, hd, hp, hl⟩ := h.star
  obtain ⟨G1, hG, hq, hk⟩ := step F1 hp h1
  have hnot : ∀ p ∈ E.fixed, ¬ F1 p.1 := fun p hp hf => (h1 _ hf).2 p hp rfl
  refine ⟨h.is.set hos ht ho fun p hp => hk _ (h.is.lt hp) (hnot p hp), G1, F2, fun k hk' => ⟨(hG k hk').2, fun p hp e => ?_⟩, fun k hk' => ⟨Nat.lt_of_lt_of_le (h2 k hk').1 hz, (h2 k hk').2⟩, fun k hk1 hk2 => ?_, hq, ?_⟩
  · rcases (hG k hk').1 with h3 | h3
    · exact (h1 k h3).2 p hp e
    · have := h.is.lt hp
      omega
  · rcases (hG k hk1).1 with h3 | h3
    · exact hd k h3 hk2
    · have := (h2 k hk2).1
      omega
  · exact hl.loc (fun _ h => h) fun k hk2 => hk k (h2 k hk2).1 fun hf => hd k hf hk2
theorem Holds.set {E : Env} {w w' : World} {r : List HP} {b : Nat} {o o' : Obj} (h : Holds E w (SL.ob b o :: r)) (hos : w'.os = w.os) (ht : w'.tape = w.tape) (ho : w'.output = w.output) (hz : w'.heap.size = w.heap.size)
    (hb : w'.heap[b]? = some o') (hk : ∀ k, k ≠ b → w'.heap[k]? = w.heap[k]?) : Holds E w' (SL.ob b o' :: r) :=
  h.turn hos ht ho (Nat.le_of_eq hz.symm) fun F1 hp hF => ⟨F1, fun k hk => ⟨.inl hk, by rw [hz]; exact (hF k hk).1⟩, ⟨hp.1, hb⟩, fun k _ hk' => hk k (by rintro rfl; exact hk' hp.1)⟩
theorem Holds.alloc {E : Env} {w : World} {l : List HP} (h : Holds E w l) (o : Obj) : Holds E (w.alloc o) (SL.ob w.heap.size o :: l) := by
  have h' : Holds E w (HP.pure True :: l) := ⟨h.is, fun _ => False, E.free w, fun _ h => h.elim, fun _ h => h, fun _ h => h.elim, trivial, h.star⟩
  refine h'.turn rfl rfl rfl (by simp) fun F1 _ _ => ⟨fun k => k = w.heap.size, fun k hk => ⟨.inr (by omega), by simp; omega⟩, ⟨rfl, ?_⟩, fun k hk _ => Below.heap_alloc _ _ _ hk⟩
  show (w.heap.push o)[w.heap.size]? = some o
  simp
theorem Holds.drawn {E : Env} {w : World} {l : List HP} (h : Holds E w l) (n : Nat) : Holds E { w with drawn := n } l := ⟨⟨h.is.os, h.is.tape, h.is.output, h.is.fixed⟩, Star.loc (w := w) (fun _ h => h) (fun _ _ => rfl) h.star⟩
theorem Env.is.below {E : Env} {w w' : World} (h : E.is w) (hb : Below w.heap.size w w') : E.is w' := h.set hb.os hb.tape hb.output fun _ hp => hb.block _ (h.lt hp)
theorem Holds.below {E : Env} {w w' : World} {l : List HP} (h : Holds E w l) (hb : Below w.heap.size w w') : Holds E w' l :=
  ⟨h.is.below hb, h.star.loc (fun _ hk => ⟨Nat.lt_of_lt_of_le hk.1 hb.size, hk.2⟩) fun k hk => hb.block k hk.1⟩
theorem Holds.start {E : Env} {w : World} (h : E.is w) : Holds E w [old E w] :=
  ⟨h, E.free w, fun _ => False, fun _ h => h, fun _ h => h.elim, fun _ _ h => h.elim, fun _ hk => ⟨hk, rfl⟩, trivial⟩
theorem Holds.old {E : Env} {w w0 : World} {l r : List HP} (h : Holds E w l) (s : Sel (SL.old E w0) l r) (h0 : E.is w0) : Below w0.heap.size w0 w := by
  obtain ⟨F1, F2, h1, _, _, hs, _⟩ := (h.sel s).star
  have hk : ∀ k, k < w0.heap.size → w.heap[k]? = w0.heap[k]? := fun k hk => by
    by_cases hf : ∃ p ∈ E.fixed, p.1 = k
    · obtain ⟨p, hp, rfl⟩ := hf
      rw [h.is.fixed p hp, h0.fixed p hp]
    · exact (hs k ⟨hk, fun p hp e => hf ⟨p, hp, e⟩⟩).2
  refine ⟨h.is.os.trans h0.os.symm, h.is.tape.trans h0.tape.symm, h.is.output.trans h0.output.symm, ?_, hk⟩
  rcases Nat.eq_zero_or_pos w0.heap.size with h3 | h3
  · omega
  · have h4 := hk (w0.heap.size - 1) (by omega)
    have h5 : w0.heap[w0.heap.size - 1]? = some (w0.heap[w0.heap.size - 1]'(by omega)) := Array.getElem?_eq_getElem _
    rw [h5] at h4
    have := (Array.getElem?_eq_some_iff.1 h4).1
    omega
theorem Holds.later {E : Env} {w w0 : World} {l m : List HP} (h0 : Holds E w0 l) (h : Holds E w (m ++ [SL.old E w0])) : Holds E w (m ++ l) := by
  refine ⟨h.is, ?_⟩
  obtain ⟨F1, F2, h1, h2, hd, hm, G1, G2, g1, g2, gd, hs, _⟩ := h.star.append
  refine Star.join (F2 := E.free w0) h1 (fun k hk => h2 _ (g1 _ (hs k hk).1)) (fun k a b => hd k a (g1 _ (hs k b).1)) hm ?_
  exact h0.star.loc (fun _ h => h) fun k hk => (hs k hk).2
def look : Nat → List (Nat × Value) → Option Value
  | _, [] => none
  | i, (j, v) :: l => bif Nat.beq i j then some v else look i l
def ev (ts : List (Nat × Value)) : Operand → Option Value
  | .tmp t => look t ts
  | .const v => some v
  | .global g => some (.pointer (some ⟨g, 0, none⟩))
  | .func f => some (.func (.func f) #[] #[])
structure Fits (n : Nat) (D : List Deferred) (ts : List (Nat × Value)) (a : Act) : Prop where
  size : a.tmps.size = n
  defers : a.defers = D
  get : ∀ i v, look i ts = some v → a.tmps[i]? = some v
theorem Fits.eval {n : Nat} {D : List Deferred} {ts : List (Nat × Value)} {a : Act} (h : Fits n D ts a) {x : Operand} {v : Value} (hx : ev ts x = some v) : a.eval x = v := by
  cases x with
  | tmp t => simp [Act.eval, h.get t v hx]
  | const u => simpa [ev, Act.eval] using hx
  | global g => simpa [ev, Act.eval] using hx
  | func f => simpa [ev, Act.eval] using hx
theorem Fits.put {n : Nat} {D : List Deferred} {ts : List (Nat × Value)} {a : Act} (h : Fits n D ts a) (i : Nat) (hi : i < n) (v : Value) : Fits n D ((i, v) :: ts) (a.put (some i) v) := by
  refine ⟨by simp [Act.put, h.size], by simp [Act.put, h.defers], fun j u hj => ?_⟩
  simp only [look] at hj
  by_cases hij : j = i
  · subst hij
    simp at hj; subst hj
    simp [Act.put, h.size, hi]
  · have : Nat.beq j i = false := by cases hb : Nat.beq j i with | false => rfl | true => exact absurd (Nat.eq_of_beq_eq_true hb) hij
    rw [this] at hj
    simp only [cond_false] at hj
    simp [Act.put, Array.getElem?_setIfInBounds_ne (Ne.symm hij), h.get j u hj]
inductive Put (n : Nat) (v : Value) (ts : List (Nat × Value)) : Option Tmp → List (Nat × Value) → Prop where
  | none : Put n v ts none ts
  | some {i : Nat} (h : Nat.blt i n = true) : Put n v ts (some i) ((i, v) :: ts)
def At (E : Env) (n : Nat) (D : List Deferred) (ts : List (Nat × Value)) (l : List HP) (K : Act → World → Prop) : Prop := ∀ a w, Fits n D ts a → Holds E w l → K a w
end Go.SL

namespace Go.SL
open Go Go.RowKit
def Knows (ts : List (Nat × Value)) (a : Act) : Prop := ∀ i v, look i ts = some v → a.tmps[i]? = some v
theorem Fits.knows {n : Nat} {D : List Deferred} {ts : List (Nat × Value)} {a : Act} (h : Fits n D ts a) : Knows ts a := h.get
theorem Knows.eval {ts : List (Nat × Value)} {a : Act} (h : Knows ts a) {x : Operand} {v : Value} (hx : ev ts x = some v) : a.eval x = v := by
  cases x with
  | tmp t => simp [Act.eval, h t v hx]
  | const u => simpa [ev, Act.eval] using hx
  | global g => simpa [ev, Act.eval] using hx
  | func f => simpa [ev, Act.eval] using hx
def Any (_ : World) : Prop := True
def CellIs (p : Addr) (v : Value) (w : World) : Prop := w.cell? p = some v
def Ev (P : Program) (ts : List (Nat × Value)) (op : Op) (v : Value) (φ : World → Prop) : Prop :=
  ∀ a w (d : Option Tmp) (ty : TypeId) (pos : String) (af : Array Edge) (g : Option (Nat × Bool)), Knows ts a → φ w → (execOp a.eval ⟨d, op, ty, pos, af, g⟩).run P w = .ok (.value v) w
section
variable {P : Program} {ts : List (Nat × Value)}
theorem ev_move {x : Operand} {v : Value} (hx : ev ts x = some v) : Ev P ts (.move x) v Any := by
  intro a w _ _ _ _ _ k _
  simp [execOp, k.eval hx]
theorem ev_assign {x : Operand} {v : Value} (hx : ev ts x = some v) : Ev P ts (.assign x) v Any := by
  intro a w _ _ _ _ _ k _
  simp [execOp, k.eval hx]
theorem ev_pick {c x y : Operand} {b : Bool} {u v : Value} (hc : ev ts c = some (.bool b)) (hx : ev ts x = some u) (hy : ev ts y = some v) : Ev P ts (.pick c x y) (if b then u else v) Any := by
  intro a w _ _ _ _ _ k _
  cases b <;> simp [execOp, k.eval hc, k.eval hx, k.eval hy, asBool]
theorem ev_nil {x : Operand} {p : Addr} (hx : ev ts x = some (.pointer (some p))) : Ev P ts (.nilCheck x) (.pointer (some p)) Any := by
  intro a w _ _ _ _ _ k _
  simp [execOp, k.eval hx]
theorem ev_load {t : TypeId} {x : Operand} {p : Addr} {v : Value} {d : TypeDesc} (hd : P.underlying t = some d) (hn : (match d with | .struct _ | .array _ _ => true | _ => false) = false)
    (hx : ev ts x = some (.pointer (some p))) : Ev P ts (.load t x) v (CellIs p v) := by
  intro a w _ _ _ _ _ k hc
  have hu : (underlying t).run P w = .ok d w := run_underlying hd w
  have ha : (isAgg t).run P w = .ok false w := by
    unfold isAgg
    simp only [Sem.run_bind, hu, Result.andThen_ok]
    cases d <;> simp_all
  unfold CellIs at hc
  simp [execOp, k.eval hx, Instr.loadAt, Instr.sureAddr, loadVar, ha, hc]
end
end Go.SL
namespace Go.SL
open Go Go.RowKit
section
variable {P : Program} {ts : List (Nat × Value)}
theorem ev_add {t t' : TypeId} {x y : Operand} {k : IntKind} {a b r : Int} (hx : ev ts x = some (.int k a)) (hy : ev ts y = some (.int k b)) (hr : k.wrap (a + b) = r) : Ev P ts (.binOp .add t x y t') (.int k r) Any := by
  intro ac w _ _ _ _ _ kn _
  subst hr
  simp [execOp, kn.eval hx, kn.eval hy, binOp, Op.intArith, eqGuard]
theorem ev_sub {t t' : TypeId} {x y : Operand} {k : IntKind} {a b r : Int} (hx : ev ts x = some (.int k a)) (hy : ev ts y = some (.int k b)) (hr : k.wrap (a - b) = r) : Ev P ts (.binOp .sub t x y t') (.int k r) Any := by
  intro ac w _ _ _ _ _ kn _
  subst hr
  simp [execOp, kn.eval hx, kn.eval hy, binOp, Op.intArith, eqGuard]
theorem ev_mul {t t' : TypeId} {x y : Operand} {k : IntKind} {a b r : Int} (hx : ev ts x = some (.int k a)) (hy : ev ts y = some (.int k b)) (hr : k.wrap (a * b) = r) : Ev P ts (.binOp .mul t x y t') (.int k r) Any := by
  intro ac w _ _ _ _ _ kn _
  subst hr
  simp [execOp, kn.eval hx, kn.eval hy, binOp, Op.intArith, eqGuard]
theorem ev_quo {t t' : TypeId} {x y : Operand} {k : IntKind} {a b r : Int} (hx : ev ts x = some (.int k a)) (hy : ev ts y = some (.int k b)) (hb : b ≠ 0) (hr : k.wrap (a.tdiv b) = r) : Ev P ts (.binOp .quo t x y t') (.int k r) Any := by
  intro ac w _ _ _ _ _ kn _
  subst hr
  simp [execOp, kn.eval hx, kn.eval hy, binOp, Op.intDiv, eqGuard, hb]
theorem ev_rem {t t' : TypeId} {x y : Operand} {k : IntKind} {a b r : Int} (hx : ev ts x = some (.int k a)) (hy : ev ts y = some (.int k b)) (hb : b ≠ 0) (hr : a.tmod b = r) : Ev P ts (.binOp .rem t x y t') (.int k r) Any := by
  intro ac w _ _ _ _ _ kn _
  subst hr
  simp [execOp, kn.eval hx, kn.eval hy, binOp, Op.intDiv, eqGuard, hb]
theorem ev_shl {t t' : TypeId} {x y : Operand} {k k' : IntKind} {a b r : Int} (hx : ev ts x = some (.int k a)) (hy : ev ts y = some (.int k' b)) (hb : 0 ≤ b) (hr : k.wrap (a * 2 ^ min b.toNat k.bits) = r) : Ev P ts (.binOp .shl t x y t') (.int k r) Any := by
  intro ac w _ _ _ _ _ kn _
  subst hr
  have : ¬ b < 0 := by omega
  simp [execOp, kn.eval hx, kn.eval hy, binOp, Op.shift, eqGuard, this]
theorem ev_shr {t t' : TypeId} {x y : Operand} {k k' : IntKind} {a b r : Int} (hx : ev ts x = some (.int k a)) (hy : ev ts y = some (.int k' b)) (hb : 0 ≤ b) (hr : a.fdiv (2 ^ min b.toNat k.bits) = r) : Ev P ts (.binOp .shr t x y t') (.int k r) Any := by
  intro ac w _ _ _ _ _ kn _
  subst hr
  have : ¬ b < 0 := by omega
  simp [execOp, kn.eval hx, kn.eval hy, binOp, Op.shift, eqGuard, this]
theorem ev_and {t t' : TypeId} {x y : Operand} {k : IntKind} {a b r : Int} (hx : ev ts x = some (.int k a)) (hy : ev ts y = some (.int k b)) (hr : bits .and k a b = r) : Ev P ts (.binOp .and t x y t') (.int k r) Any := by
  intro ac w _ _ _ _ _ kn _
  subst hr
  simp [execOp, kn.eval hx, kn.eval hy, binOp, intBits_and, eqGuard]
theorem ev_or {t t' : TypeId} {x y : Operand} {k : IntKind} {a b r : Int} (hx : ev ts x = some (.int k a)) (hy : ev ts y = some (.int k b)) (hr : bits .or k a b = r) : Ev P ts (.binOp .or t x y t') (.int k r) Any := by
  intro ac w _ _ _ _ _ kn _
  subst hr
  simp [execOp, kn.eval hx, kn.eval hy, binOp, intBits_or, eqGuard]
theorem ev_xor {t t' : TypeId} {x y : Operand} {k : IntKind} {a b r : Int} (hx : ev ts x = some (.int k a)) (hy : ev ts y = some (.int k b)) (hr : bits .xor k a b = r) : Ev P ts (.binOp .xor t x y t') (.int k r) Any := by
  intro ac w _ _ _ _ _ kn _
  subst hr
  simp [execOp, kn.eval hx, kn.eval hy, binOp, intBits_xor, eqGuard]
theorem ev_andNot {t t' : TypeId} {x y : Operand} {k : IntKind} {a b r : Int} (hx : ev ts x = some (.int k a)) (hy : ev ts y = some (.int k b)) (hr : bits .andNot k a b = r) : Ev P ts (.binOp .andNot t x y t') (.int k r) Any := by
  intro ac w _ _ _ _ _ kn _
  subst hr
  simp [execOp, kn.eval hx, kn.eval hy, binOp, intBits_andNot, eqGuard]
theorem ev_lss {t t' : TypeId} {x y : Operand} {k : IntKind} {a b : Int} {r : Bool} (hx : ev ts x = some (.int k a)) (hy : ev ts y = some (.int k b)) (hr : decide (a < b) = r) : Ev P ts (.binOp .lss t x y t') (.bool r) Any := by
  intro ac w _ _ _ _ _ kn _
  subst hr
  simp [execOp, kn.eval hx, kn.eval hy, binOp, Op.intCmp, eqGuard]
theorem ev_gtr {t t' : TypeId} {x y : Operand} {k : IntKind} {a b : Int} {r : Bool} (hx : ev ts x = some (.int k a)) (hy : ev ts y = some (.int k b)) (hr : decide (b < a) = r) : Ev P ts (.binOp .gtr t x y t') (.bool r) Any := by
  intro ac w _ _ _ _ _ kn _
  subst hr
  simp [execOp, kn.eval hx, kn.eval hy, binOp, Op.intCmp, eqGuard]
theorem ev_geq {t t' : TypeId} {x y : Operand} {k : IntKind} {a b : Int} {r : Bool} (hx : ev ts x = some (.int k a)) (hy : ev ts y = some (.int k b)) (hr : decide (b ≤ a) = r) : Ev P ts (.binOp .geq t x y t') (.bool r) Any := by
  intro ac w _ _ _ _ _ kn _
  subst hr
  simp [execOp, kn.eval hx, kn.eval hy, binOp, Op.intCmp, eqGuard]
theorem ev_eql {t t' : TypeId} {x y : Operand} {k : IntKind} {a b : Int} {r : Bool} (hx : ev ts x = some (.int k a)) (hy : ev ts y = some (.int k b)) (hr : decide (a = b) = r) : Ev P ts (.binOp .eql t x y t') (.bool r) Any := by
  intro ac w _ _ _ _ _ kn _
  subst hr
  by_cases h : a = b <;> simp [execOp, kn.eval hx, kn.eval hy, binOp, Op.intCmp, eqGuard, h]
theorem ev_neq {t t' : TypeId} {x y : Operand} {k : IntKind} {a b : Int} {r : Bool} (hx : ev ts x = some (.int k a)) (hy : ev ts y = some (.int k b)) (hr : decide (a ≠ b) = r) : Ev P ts (.binOp .neq t x y t') (.bool r) Any := by
  intro ac w _ _ _ _ _ kn _
  subst hr
  by_cases h : a = b <;> simp [execOp, kn.eval hx, kn.eval hy, binOp, Op.intCmp, eqGuard, h]
theorem exec_bin {op : BinOp} {t t' : TypeId} {x y : Operand} {u v r : Value} {a : Act} {w : World} {d : Option Tmp} {ty : TypeId} {pos : String} {af : Array Edge} {g : Option (Nat × Bool)} (hx : a.eval x = u) (hy : a.eval y = v)
    (hg : (eqGuard op t x y u v).run P w = .ok () w) (hb : (binOp op t u v).run P w = .ok r w) : (execOp a.eval ⟨d, .binOp op t x y t', ty, pos, af, g⟩).run P w = .ok (.value r) w := by
  simp [execOp, hx, hy, hg, hb]
theorem bin_eql {t : TypeId} {u v : Value} {r : Bool} {w : World} (hs : binOp .eql t u v = (do pure (.bool (← Op.equal t u v)))) (h : ∀ d, (Op.equalIn (d + 1) t u v).run P w = .ok r w) : (binOp .eql t u v).run P w = .ok (.bool r) w := by
  rw [hs]
  simp only [Op.equal, Op.maxDepth, Sem.run_bind, h 9999, Result.andThen_ok, Sem.run_pure]
theorem bin_neq {t : TypeId} {u v : Value} {r : Bool} {w : World} (hs : binOp .neq t u v = (do pure (.bool (!(← Op.equal t u v))))) (h : ∀ d, (Op.equalIn (d + 1) t u v).run P w = .ok r w) : (binOp .neq t u v).run P w = .ok (.bool (!r)) w := by
  rw [hs]
  simp only [Op.equal, Op.maxDepth, Sem.run_bind, h 9999, Result.andThen_ok, Sem.run_pure]
theorem ev_neqB {t t' : TypeId} {x y : Operand} {a b r : Bool} (ht : P.underlying t = some .bool) (hx : ev ts x = some (.bool a)) (hy : ev ts y = some (.bool b)) (hr : (!(a == b)) = r) : Ev P ts (.binOp .neq t x y t') (.bool r) Any := by
  intro ac w _ _ _ _ _ kn _
  subst hr
  exact exec_bin (kn.eval hx) (kn.eval hy) (by simp [eqGuard]) (bin_neq rfl fun d => by simp [Op.equalIn, run_underlying ht])
theorem ev_not {t : TypeId} {x : Operand} {a r : Bool} (hx : ev ts x = some (.bool a)) (hr : (!a) = r) : Ev P ts (.unOp .not t x) (.bool r) Any := by
  intro ac w _ _ _ _ _ kn _
  subst hr
  simp [execOp, kn.eval hx, Op.unary]
theorem ev_neg {t : TypeId} {x : Operand} {k : IntKind} {a r : Int} (hx : ev ts x = some (.int k a)) (hr : k.wrap (0 - a) = r) : Ev P ts (.unOp .neg t x) (.int k r) Any := by
  intro ac w _ _ _ _ _ kn _
  subst hr
  simp [execOp, kn.eval hx, Op.unary, Op.intArith]
theorem ev_conv {s d : TypeId} {ds : TypeDesc} {x : Operand} {k k' : IntKind} {a r : Int} (hs : P.underlying s = some ds) (hd : P.underlying d = some (.int k)) (hx : ev ts x = some (.int k' a)) (hr : k.wrap a = r) : Ev P ts (.convert s d x) (.int k r) Any := by
  intro ac w _ _ _ _ _ kn _
  subst hr
  simp [execOp, kn.eval hx, convert, run_underlying hs, run_underlying hd, Conv.intToInt]
theorem ev_eqlNil {t t' : TypeId} {x : Operand} {d : TypeId} {v : Value} {ms : Array (String × TypeId)} (ht : P.underlying t = some (.interface ms)) (hx : ev ts x = some (.iface d v)) : Ev P ts (.binOp .eql t x (.const (.nilIface)) t') (.bool false) Any := by
  intro ac w _ _ _ _ _ kn _
  exact exec_bin (kn.eval hx) (kn.eval (x := .const _) rfl) (by simp [eqGuard]) (bin_eql rfl fun d => by simp [Op.equalIn, run_underlying ht])
theorem ev_neqNil {t t' : TypeId} {x : Operand} {d : TypeId} {v : Value} {ms : Array (String × TypeId)} (ht : P.underlying t = some (.interface ms)) (hx : ev ts x = some (.iface d v)) : Ev P ts (.binOp .neq t x (.const (.nilIface)) t') (.bool true) Any := by
  intro ac w _ _ _ _ _ kn _
  exact exec_bin (kn.eval hx) (kn.eval (x := .const _) rfl) (by simp [eqGuard]) (bin_neq (r := false) rfl fun d => by simp [Op.equalIn, run_underlying ht])
theorem ev_eqlNil0 {t t' : TypeId} {x : Operand} {ms : Array (String × TypeId)} (ht : P.underlying t = some (.interface ms)) (hx : ev ts x = some (.nilIface)) : Ev P ts (.binOp .eql t x (.const (.nilIface)) t') (.bool true) Any := by
  intro ac w _ _ _ _ _ kn _
  exact exec_bin (kn.eval hx) (kn.eval (x := .const _) rfl) (by simp [eqGuard]) (bin_eql rfl fun d => by simp [Op.equalIn, run_underlying ht])
theorem ev_neqNil0 {t t' : TypeId} {x : Operand} {ms : Array (String × TypeId)} (ht : P.underlying t = some (.interface ms)) (hx : ev ts x = some (.nilIface)) : Ev P ts (.binOp .neq t x (.const (.nilIface)) t') (.bool false) Any := by
  intro ac w _ _ _ _ _ kn _
  exact exec_bin (kn.eval hx) (kn.eval (x := .const _) rfl) (by simp [eqGuard]) (bin_neq (r := true) rfl fun d => by simp [Op.equalIn, run_underlying ht])
theorem ev_eqlNilP {t t' e : TypeId} {x : Operand} {p : Option Addr} {r : Bool} (ht : P.underlying t = some (.pointer e)) (hx : ev ts x = some (.pointer p)) (hr : p.isNone = r) : Ev P ts (.binOp .eql t x (.const (.pointer none)) t') (.bool r) Any := by
  intro ac w _ _ _ _ _ kn _
  subst hr
  exact exec_bin (kn.eval hx) (kn.eval (x := .const _) rfl) (by simp [eqGuard]) (bin_eql rfl fun d => by cases p <;> simp [Op.equalIn, run_underlying ht])
theorem ev_neqNilS {t t' e : TypeId} {x : Operand} {p : Option Addr} {n c n' c' : Nat} {r : Bool} (ht : P.underlying t = some (.slice e)) (hx : ev ts x = some (.slice p n c)) (hr : (!p.isNone) = r) : Ev P ts (.binOp .neq t x (.const (Value.slice none n' c')) t') (.bool r) Any := by
  intro ac w _ _ _ _ _ kn _
  subst hr
  exact exec_bin (kn.eval hx) (kn.eval (x := .const _) rfl) (by simp [eqGuard]) (bin_neq rfl fun d => by cases p <;> simp [Op.equalIn, run_underlying ht])
theorem add_plain (b o n : Nat) : (⟨b, o, none⟩ : Addr).add n = ⟨b, o + n, none⟩ := by
  unfold Addr.add; split <;> simp_all
def fieldOff (P : Program) (s : TypeId) (j : Nat) : Option Nat :=
  match P.underlying s with
  | some (.struct fields) => match fields[j]? with
    | some f => match P.info? f.type with
      | some i => if i.size = 0 then none else some f.offset
      | none => none
    | none => none
  | _ => none
theorem run_fieldAt {s : TypeId} {j off : Nat} (h : fieldOff P s j = some off) (b o : Nat) (w : World) : (Instr.fieldAt s (.pointer (some ⟨b, o, none⟩)) j).run P w = .ok (.pointer (some ⟨b, o + off, none⟩)) w := by
  unfold fieldOff at h
  split at h
  · rename_i fields hu
    split at h
    · rename_i f hf
      split at h
      · rename_i i hi
        split at h
        · cases h
        · rename_i hz
          injection h with h
          subst h
          simp [Instr.fieldAt, run_underlying hu, hf, Instr.sureAddr, fieldPlace, sizeOf, typeInfo, hi, hz, add_plain]
      · cases h
    · cases h
  · cases h
theorem ev_field {s : TypeId} {x : Operand} {j off b o : Nat} (h : fieldOff P s j = some off) (hx : ev ts x = some (.pointer (some ⟨b, o, none⟩))) : Ev P ts (.fieldAddr s x j) (.pointer (some ⟨b, o + off, none⟩)) Any := by
  intro ac w _ _ _ _ _ kn _
  simp [execOp, kn.eval hx, run_fieldAt h]
def sizeIs (P : Program) (t : TypeId) (n : Nat) : Prop := (P.info? t).map (·.size) = some n
theorem run_sizeIs {t : TypeId} {n : Nat} (h : sizeIs P t n) (w : World) : (sizeOf t).run P w = .ok n w := by
  unfold sizeIs at h
  cases hi : P.info? t with
  | none => simp [hi] at h
  | some i => simp [hi] at h; simp [sizeOf, typeInfo, hi, h]
theorem ev_ixS {t e : TypeId} {x y : Operand} {k : IntKind} {i : Int} {b o n c z : Nat} (ht : P.underlying t = some (.slice e)) (hz : sizeIs P e z) (hx : ev ts x = some (.slice (some ⟨b, o, none⟩) n c)) (hy : ev ts y = some (.int k i)) (h0 : 0 ≤ i) (h1 : i < n) :
    Ev P ts (.indexAddr t x y) (.pointer (some ⟨b, o + i.toNat * z, none⟩)) Any := by
  intro ac w _ _ _ _ _ kn _
  simp [execOp, kn.eval hx, kn.eval hy, Instr.indexAt, asIntOf, run_underlying ht, run_sizeIs hz, h0, h1, add_plain]
theorem ev_ixN {t e : TypeId} {x y : Operand} {k : IntKind} {i b o n c z : Nat} (ht : P.underlying t = some (.slice e)) (hz : sizeIs P e z) (hx : ev ts x = some (.slice (some ⟨b, o, none⟩) n c)) (hy : ev ts y = some (.int k (i : Int))) (h1 : i < n) :
    Ev P ts (.indexAddr t x y) (.pointer (some ⟨b, o + i * z, none⟩)) Any := ev_ixS ht hz hx hy (by omega) (by omega)
theorem ev_ixA {t e : TypeId} {x y : Operand} {k : IntKind} {i : Int} {b o n z : Nat} (ht : P.underlying t = some (.array n e)) (hz : sizeIs P e z) (hx : ev ts x = some (.pointer (some ⟨b, o, none⟩))) (hy : ev ts y = some (.int k i)) (h0 : 0 ≤ i) (h1 : i < n) :
    Ev P ts (.indexAddr t x y) (.pointer (some ⟨b, o + i.toNat * z, none⟩)) Any := by
  intro ac w _ _ _ _ _ kn _
  simp [execOp, kn.eval hx, kn.eval hy, Instr.indexAt, asIntOf, run_underlying ht, Instr.sureAddr, run_sizeIs hz, h0, h1, add_plain]
def isAggB (P : Program) (t : TypeId) : Option Bool :=
  match P.underlying t with
  | some (.struct _) | some (.array _ _) => some true
  | some _ => some false
  | none => none
theorem run_isAggB {t : TypeId} {b : Bool} (h : isAggB P t = some b) (w : World) : (isAgg t).run P w = .ok b w := by
  unfold isAggB at h
  unfold isAgg
  cases hu : P.underlying t with
  | none => rw [hu] at h; cases h
  | some d =>
    rw [hu] at h
    rw [Sem.run_bind, run_underlying hu, Result.andThen_ok]
    cases d <;> (injection h with h; subst h; rfl)
theorem ev_load1 {t : TypeId} {x : Operand} {p : Addr} {v : Value} (hd : isAggB P t = some false) (hx : ev ts x = some (.pointer (some p))) : Ev P ts (.load t x) v (CellIs p v) := by
  intro a w _ _ _ _ _ k hc
  unfold CellIs at hc
  simp [execOp, k.eval hx, Instr.loadAt, Instr.sureAddr, loadVar, run_isAggB hd, hc]
def RowIs (b o : Nat) (vs : List Value) (w : World) : Prop := ∀ j v, vs[j]? = some v → w.cell? ⟨b, o + j, none⟩ = some v
theorem run_loadCellsFrom {b o : Nat} {w : World} : ∀ (vs : List Value) (i : Nat) (acc : Array Value), (∀ j v, vs[j]? = some v → w.cell? ⟨b, o + (i + j), none⟩ = some v) → (loadCellsFrom ⟨b, o, none⟩ i vs.length acc).run P w = .ok (acc ++ vs.toArray) w
  | [], i, acc, _ => by simp [loadCellsFrom]
  | v :: vs, i, acc, h => by
    have h0 := h 0 v (by simp)
    rw [Nat.add_zero] at h0
    have ih := run_loadCellsFrom vs (i + 1) (acc.push v) fun j u hj => by
      have := h (j + 1) u (by simpa using hj)
      rw [show i + 1 + j = i + (j + 1) by omega]; exact this
    simp [loadCellsFrom, add_plain, h0, ih]
theorem ev_loadN {t : TypeId} {x : Operand} {b o n : Nat} {vs : List Value} (hd : isAggB P t = some true) (hz : sizeIs P t n) (hn : vs.length = n) (hx : ev ts x = some (.pointer (some ⟨b, o, none⟩))) : Ev P ts (.load t x) (.agg vs.toArray) (RowIs b o vs) := by
  intro a w _ _ _ _ _ k hc
  subst hn
  have := run_loadCellsFrom (P := P) vs 0 #[] (fun j v hj => by simpa using hc j v hj)
  simp [execOp, k.eval hx, Instr.loadAt, Instr.sureAddr, loadVar, run_isAggB hd, run_sizeIs hz, loadCells, this]
end
end Go.SL
