/- A small logic of what memory a walk holds: facts on blocks that stand apart from one another; what the slots of a frame hold; and one judgement, 'At', over both. -/
import Derived.WalkKit
import Derived.WalkLawsBesides
import Derived.WalkSpells
import Derived.WalkSmall
import Derived.Laws.OwnMore
import Derived.Maps.AppendAt
import Derived.Orders
import Derived.ScopeJumps
import Derived.KernelRfl
import Derived.Test.YtmeegfamopaljaaGreatDoorChecked
import Derived.Outline
import Derived.BigQuiet
import Derived.Deep.QuietTactic
import Derived.Deep.Draws
import Derived.RegionTactic
import Derived.ChangeAlike
import Derived.Below
import Derived.Lib.Hide
import Derived.Laws.Rows
import Derived.Test.YtmeegfamopaljaaGreatDoorHnA
import Derived.OwnWalk
import Derived.Laws.BitsAllLaws
import Derived.Shelf.Spec.TrailingZeros
namespace Go.SL
open Go Go.RowKit
structure Env where
 os : Os
 tape : Nat → Question → Nat
 output : Array (Nat × ByteArray)
 fixed : List (Nat × Obj)
def Env.free (E : Env) (w : World) (k : Nat) : Prop := k < w.heap.size ∧ ∀ p ∈ E.fixed, p.1 ≠ k
structure HP where
 sat : World → (Nat → Prop) → Prop
 loc : ∀ {w w' : World} {F G : Nat → Prop}, (∀ k, F k → G k) → (∀ k, F k → w'.heap[k]? = w.heap[k]?) → sat w F → sat w' G
section
variable {l : List HP} {w : World} {F : Nat → Prop}
def Star (w : World) : List HP → (Nat → Prop) → Prop
 | [], _ => True
 | p :: l, F => ∃ F1 F2 : Nat → Prop, (∀ k, F1 k → F k) ∧ (∀ k, F2 k → F k) ∧ (∀ k, F1 k → F2 k → False) ∧ p.sat w F1 ∧ Star w l F2
theorem Star.loc {w w' : World} {l : List HP} : ∀ {F G : Nat → Prop}, (∀ k, F k → G k) → (∀ k, F k → w'.heap[k]? = w.heap[k]?) → Star w l F → Star w' l G := by
 induction l with
 | nil => exact fun _ _ _ => trivial
 | cons p l ih =>
  intro F G hFG hk ⟨F1, F2, h1, h2, hd, hp, hl⟩
  exact ⟨F1, F2, fun k h => hFG k (h1 k h), fun k h => hFG k (h2 k h), hd, p.loc (fun _ h => h) (fun k h => hk k (h1 k h)) hp, ih (fun _ h => h) (fun k h => hk k (h2 k h)) hl⟩
theorem Star.mono {G : Nat → Prop} (h : ∀ k, F k → G k) (s : Star w l F) : Star w l G := s.loc h fun _ _ => rfl
theorem Star.swap {p q : HP} (h : Star w (p :: q :: l) F) : Star w (q :: p :: l) F := by
 obtain ⟨F1, F2, h1, h2, hd, hp, F3, F4, h3, h4, hd', hq, hl⟩ := h
 refine ⟨F3, fun k => F1 k ∨ F4 k, fun k h => h2 k (h3 k h), fun k h => h.elim (h1 k) (fun h => h2 k (h4 k h)), ?_, hq, F1, F4, fun k h => .inl h, fun k h => .inr h, fun k a b => hd k a (h4 k b), hp, hl⟩
 intro k a b
 rcases b with b | b
 · exact hd k b (h3 k a)
 · exact hd' k a b
theorem Star.perm {m : List HP} (h : l.Perm m) : ∀ {F : Nat → Prop}, Star w l F → Star w m F := by
 induction h with
 | nil => exact fun h => h
 | cons x _ ih => exact fun ⟨F1, F2, h1, h2, hd, hp, hl⟩ => ⟨F1, F2, h1, h2, hd, hp, ih hl⟩
 | swap x y l => exact fun h => h.swap
 | trans _ _ ih1 ih2 => exact fun h => ih2 (ih1 h)
theorem Star.append {w : World} : ∀ {l m : List HP} {F : Nat → Prop}, Star w (l ++ m) F → ∃ F1 F2 : Nat → Prop, (∀ k, F1 k → F k) ∧ (∀ k, F2 k → F k) ∧ (∀ k, F1 k → F2 k → False) ∧ Star w l F1 ∧ Star w m F2
 | [], m, F, h => ⟨fun _ => False, F, fun _ h => h.elim, fun _ h => h, fun _ h => h.elim, trivial, h⟩
 | p :: l, m, F, h => by
  obtain ⟨F1, F2, h1, h2, hd, hp, hl⟩ := h
  obtain ⟨G1, G2, g1, g2, gd, gl, gm⟩ := Star.append (l := l) (m := m) hl
  refine ⟨fun k => F1 k ∨ G1 k, G2, fun k h => h.elim (h1 k) (fun h => h2 k (g1 k h)), fun k h => h2 k (g2 k h), ?_, ⟨F1, G1, fun k h => .inl h, fun k h => .inr h, fun k a b => hd k a (g1 k b), hp, gl⟩, gm⟩
  intro k a b
  rcases a with a | a
  · exact hd k a (g2 k b)
  · exact gd k a b
theorem gU {w : World} {m : List HP} : ∀ {l : List HP} {F F1 F2 : Nat → Prop}, (∀ k, F1 k → F k) → (∀ k, F2 k → F k) → (∀ k, F1 k → F2 k → False) → Star w l F1 → Star w m F2 → Star w (l ++ m) F
 | [], F, F1, F2, _, h2, _, _, hm => hm.mono h2
 | p :: l, F, F1, F2, h1, h2, hd, ⟨G1, G2, g1, g2, gd, hp, hl⟩, hm => by
  refine ⟨G1, fun k => G2 k ∨ F2 k, fun k h => h1 k (g1 k h), fun k h => h.elim (fun h => h1 k (g2 k h)) (h2 k), ?_, hp, gU (fun k h => .inl h) (fun k h => .inr h) (fun k a b => hd k (g2 k a) b) hl hm⟩
  intro k a b
  rcases b with b | b
  · exact gd k a b
  · exact hd k (g1 k a) b
end
inductive Sel (p : HP) : List HP → List HP → Prop where
 | head {l : List HP} : Sel p (p :: l) l
 | tail {q : HP} {l r : List HP} : Sel p l r → Sel p (q :: l) (q :: r)
theorem Sel.perm {p : HP} {l r : List HP} (h : Sel p l r) : l.Perm (p :: r) := by
 induction h with
 | head => exact List.Perm.refl _
 | tail _ ih => exact (List.Perm.cons _ ih).trans (List.Perm.swap _ _ _)
structure Env.is (E : Env) (w : World) : Prop where
 os : w.os = E.os
 tape : w.tape = E.tape
 output : w.output = E.output
 fixed : ∀ p ∈ E.fixed, w.heap[p.1]? = some p.2
structure Holds (E : Env) (w : World) (l : List HP) : Prop where
 is : E.is w
 star : Star w l (E.free w)
theorem Holds.perm {E : Env} {w : World} {l m : List HP} (h : Holds E w l) (p : l.Perm m) : Holds E w m := ⟨h.is, h.star.perm p⟩
def ob (b : Nat) (o : Obj) : HP where
 sat w F := F b ∧ w.heap[b]? = some o
 loc hFG hk h := ⟨hFG _ h.1, (hk _ h.1).trans h.2⟩
abbrev blk (b : Nat) (t : TypeId) (cs : Array Value) : HP := ob b (.cells cs t)
def old (E : Env) (w0 : World) : HP where
 sat w F := ∀ k, E.free w0 k → F k ∧ w.heap[k]? = w0.heap[k]?
 loc hFG hk h := fun k hlt => ⟨hFG _ (h k hlt).1, (hk _ (h k hlt).1).trans (h k hlt).2⟩
namespace HP
def ex {α : Sort _} (f : α → HP) : HP where
 sat w F := ∃ x, (f x).sat w F
 loc hFG hk h := let ⟨x, h⟩ := h; ⟨x, (f x).loc hFG hk h⟩
def pure (p : Prop) : HP where
 sat _ _ := p
 loc _ _ h := h
def all (l : List HP) : HP where
 sat w F := Star w l F
 loc hFG hk h := h.loc hFG hk
end HP
section
variable {w w' w0 : World} {E : Env} {a b l m r : List HP}
def Ent (l m : List HP) : Prop := ∀ w F, Star w l F → Star w m F
theorem Ent.refl (l : List HP) : Ent l l := fun _ _ h => h
theorem Ent.trans {c : List HP} (h : Ent a b) (k : Ent b c) : Ent a c := fun w F s => k w F (h w F s)
theorem Ent.perm {a b : List HP} (h : a.Perm b) : Ent a b := fun _ _ s => s.perm h
theorem Ent.cons {p : HP} (h : Ent a b) : Ent (p :: a) (p :: b) := fun w _ ⟨F1, F2, h1, h2, hd, hp, hl⟩ => ⟨F1, F2, h1, h2, hd, hp, h w F2 hl⟩
theorem Ent.append {a b : List HP} (h : Ent a b) (c : List HP) : Ent (a ++ c) (b ++ c) := fun w F s => by
 obtain ⟨F1, F2, h1, h2, hd, ha, hc⟩ := s.append
 exact gU h1 h2 hd (h w F1 ha) hc
theorem Ent.drop {p : HP} : Ent (p :: a) a := fun _ _ ⟨_, _, _, h2, _, _, hl⟩ => hl.mono h2
theorem Ent.ex {α : Sort _} {f : α → HP} (x : α) {a : List HP} : Ent (f x :: a) (HP.ex f :: a) := fun _ _ ⟨F1, F2, h1, h2, hd, hp, hl⟩ => ⟨F1, F2, h1, h2, hd, ⟨x, hp⟩, hl⟩
theorem Ent.pure {p : Prop} (hp : p) {a : List HP} : Ent a (HP.pure p :: a) := fun _ F s => ⟨fun _ => False, F, fun _ h => h.elim, fun _ h => h, fun _ h => h.elim, hp, s⟩
theorem Ent.all {m a : List HP} : Ent (m ++ a) (HP.all m :: a) := fun _ _ s => by
 obtain ⟨F1, F2, h1, h2, hd, ha, hc⟩ := s.append
 exact ⟨F1, F2, h1, h2, hd, ha, hc⟩
theorem Ent.unall : Ent (HP.all m :: a) (m ++ a) := fun _ _ ⟨_, _, h1, h2, hd, hp, hl⟩ => gU h1 h2 hd hp hl
theorem Holds.ent (h : Holds E w l) (e : Ent l m) : Holds E w m := ⟨h.is, e _ _ h.star⟩
theorem Holds.sel {p : HP} (h : Holds E w l) (s : Sel p l r) : Holds E w (p :: r) := h.perm s.perm
theorem Holds.ob {b : Nat} {o : Obj} (h : Holds E w l) (s : Sel (ob b o) l r) : w.heap[b]? = some o ∧ b < w.heap.size := by
 obtain ⟨F1, F2, h1, _, _, hp, _⟩ := (h.sel s).star
 exact ⟨hp.2, (h1 _ hp.1).1⟩
theorem Env.is.set (h : E.is w) (hos : w'.os = w.os) (ht : w'.tape = w.tape) (ho : w'.output = w.output) (hk : ∀ p ∈ E.fixed, w'.heap[p.1]? = w.heap[p.1]?) : E.is w' :=
 ⟨hos.trans h.os, ht.trans h.tape, ho.trans h.output, fun p hp => (hk p hp).trans (h.fixed p hp)⟩
theorem Env.is.lt (h : E.is w) {p : Nat × Obj} (hp : p ∈ E.fixed) : p.1 < w.heap.size := (Array.getElem?_eq_some_iff.1 (h.fixed p hp)).1
theorem Holds.turn {p q : HP} (h : Holds E w (p :: r)) (hos : w'.os = w.os) (ht : w'.tape = w.tape) (ho : w'.output = w.output) (hz : w.heap.size ≤ w'.heap.size)
 (step : ∀ F1 : Nat → Prop, p.sat w F1 → (∀ k, F1 k → E.free w k) → ∃ G1 : Nat → Prop, (∀ k, G1 k → (F1 k ∨ w.heap.size ≤ k) ∧ k < w'.heap.size) ∧ q.sat w' G1 ∧ ∀ k, k < w.heap.size → ¬ F1 k → w'.heap[k]? = w.heap[k]?) : Holds E w' (q :: r) := by
 obtain ⟨F1, F2, h1, h2, hd, hp, hl⟩ := h.star
 obtain ⟨G1, hG, hq, hk⟩ := step F1 hp h1
 have hnot : ∀ p ∈ E.fixed, ¬ F1 p.1 := fun p hp hf => (h1 _ hf).2 p hp rfl
 refine ⟨h.is.set hos ht ho fun p hp => hk _ (h.is.lt hp) (hnot p hp), G1, F2, fun k hk' => ⟨(hG k hk').2, fun p hp e => ?_⟩, fun k hk' => ⟨Nat.lt_of_lt_of_le (h2 k hk').1 hz, (h2 k hk').2⟩, fun k hk1 hk2 => ?_, hq, ?_⟩
 · rcases (hG k hk').1 with h3 | h3
   · exact (h1 k h3).2 p hp e
   · have := h.is.lt hp
     omega
 · rcases (hG k hk1).1 with h3 | h3
   · exact hd k h3 hk2
   · have := (h2 k hk2).1
     omega
 · exact hl.loc (fun _ h => h) fun k hk2 => hk k (h2 k hk2).1 fun hf => hd k hf hk2
theorem Holds.set {b : Nat} {o o' : Obj} (h : Holds E w (SL.ob b o :: r)) (hos : w'.os = w.os) (ht : w'.tape = w.tape) (ho : w'.output = w.output) (hz : w'.heap.size = w.heap.size)
 (hb : w'.heap[b]? = some o') (hk : ∀ k, k ≠ b → w'.heap[k]? = w.heap[k]?) : Holds E w' (SL.ob b o' :: r) :=
 h.turn hos ht ho (Nat.le_of_eq hz.symm) fun F1 hp hF => ⟨F1, fun k hk => ⟨.inl hk, by rw [hz]; exact (hF k hk).1⟩, ⟨hp.1, hb⟩, fun k _ hk' => hk k (by rintro rfl; exact hk' hp.1)⟩
theorem Holds.alloc {E : Env} {w : World} {l : List HP} (h : Holds E w l) (o : Obj) : Holds E (w.alloc o) (SL.ob w.heap.size o :: l) := by
 have h' : Holds E w (HP.pure True :: l) := ⟨h.is, fun _ => False, E.free w, fun _ h => h.elim, fun _ h => h, fun _ h => h.elim, trivial, h.star⟩
 refine h'.turn rfl rfl rfl (by simp) fun F1 _ _ => ⟨fun k => k = w.heap.size, fun k hk => ⟨.inr (by omega), by simp; omega⟩, ⟨rfl, ?_⟩, fun k hk _ => Below.heap_alloc _ _ _ hk⟩
 show (w.heap.push o)[w.heap.size]? = some o
 simp
theorem Holds.drawn {E : Env} {w : World} {l : List HP} (h : Holds E w l) (n : Nat) : Holds E { w with drawn := n } l := ⟨⟨h.is.os, h.is.tape, h.is.output, h.is.fixed⟩, Star.loc (w := w) (fun _ h => h) (fun _ _ => rfl) h.star⟩
theorem Env.is.below (h : E.is w) (hb : Below w.heap.size w w') : E.is w' := h.set hb.os hb.tape hb.output fun _ hp => hb.block _ (h.lt hp)
theorem Holds.below {E : Env} {w w' : World} {l : List HP} (h : Holds E w l) (hb : Below w.heap.size w w') : Holds E w' l :=
 ⟨h.is.below hb, h.star.loc (fun _ hk => ⟨Nat.lt_of_lt_of_le hk.1 hb.size, hk.2⟩) fun k hk => hb.block k hk.1⟩
theorem Holds.start (h : E.is w) : Holds E w [old E w] :=
 ⟨h, E.free w, fun _ => False, fun _ h => h, fun _ h => h.elim, fun _ _ h => h.elim, fun _ hk => ⟨hk, rfl⟩, trivial⟩
theorem Holds.old (h : Holds E w l) (s : Sel (SL.old E w0) l r) (h0 : E.is w0) : Below w0.heap.size w0 w := by
 obtain ⟨F1, F2, h1, _, _, hs, _⟩ := (h.sel s).star
 have hk : ∀ k, k < w0.heap.size → w.heap[k]? = w0.heap[k]? := fun k hk => by
  by_cases hf : ∃ p ∈ E.fixed, p.1 = k
  · obtain ⟨p, hp, rfl⟩ := hf
    rw [h.is.fixed p hp, h0.fixed p hp]
  · exact (hs k ⟨hk, fun p hp e => hf ⟨p, hp, e⟩⟩).2
 refine ⟨h.is.os.trans h0.os.symm, h.is.tape.trans h0.tape.symm, h.is.output.trans h0.output.symm, ?_, hk⟩
 rcases Nat.eq_zero_or_pos w0.heap.size with h3 | h3
 · omega
 · have h4 := hk (w0.heap.size - 1) (by omega)
   have h5 : w0.heap[w0.heap.size - 1]? = some (w0.heap[w0.heap.size - 1]'(by omega)) := Array.getElem?_eq_getElem _
   rw [h5] at h4
   have := (Array.getElem?_eq_some_iff.1 h4).1
   omega
theorem Holds.later (h0 : Holds E w0 l) (h : Holds E w (m ++ [SL.old E w0])) : Holds E w (m ++ l) := by
 refine ⟨h.is, ?_⟩
 obtain ⟨F1, F2, h1, h2, hd, hm, G1, G2, g1, g2, gd, hs, _⟩ := h.star.append
 refine gU (F2 := E.free w0) h1 (fun k hk => h2 _ (g1 _ (hs k hk).1)) (fun k a b => hd k a (g1 _ (hs k b).1)) hm ?_
 exact h0.star.loc (fun _ h => h) fun k hk => (hs k hk).2
def look : Nat → List (Nat × Value) → Option Value
 | _, [] => none
 | i, (j, v) :: l => bif Nat.beq i j then some v else look i l
def ev (ts : List (Nat × Value)) : Operand → Option Value
 | .tmp t => look t ts
 | .const v => some v
 | .global g => some (.pointer (some ⟨g, 0, none⟩))
 | .func f => some (.func (.func f) #[] #[])
end
structure Fits (n : Nat) (D : List Deferred) (ts : List (Nat × Value)) (a : Act) : Prop where
 size : a.tmps.size = n
 defers : a.defers = D
 get : ∀ i v, look i ts = some v → a.tmps[i]? = some v
theorem Fits.eval {n : Nat} {D : List Deferred} {ts : List (Nat × Value)} {a : Act} (h : Fits n D ts a) {x : Operand} {v : Value} (hx : ev ts x = some v) : a.eval x = v := by
 cases x with
 | tmp t => simp [Act.eval, h.get t v hx]
 | const u => simpa [ev, Act.eval] using hx
 | global g => simpa [ev, Act.eval] using hx
 | func f => simpa [ev, Act.eval] using hx
theorem Fits.put {n : Nat} {D : List Deferred} {ts : List (Nat × Value)} {a : Act} (h : Fits n D ts a) (i : Nat) (hi : i < n) (v : Value) : Fits n D ((i, v) :: ts) (a.put (some i) v) := by
 refine ⟨by simp [Act.put, h.size], by simp [Act.put, h.defers], fun j u hj => ?_⟩
 simp only [look] at hj
 by_cases hij : j = i
 · subst hij
   simp at hj; subst hj
   simp [Act.put, h.size, hi]
 · have : Nat.beq j i = false := by cases hb : Nat.beq j i with | false => rfl | true => exact absurd (Nat.eq_of_beq_eq_true hb) hij
   rw [this] at hj
   simp only [cond_false] at hj
   simp [Act.put, Array.getElem?_setIfInBounds_ne (Ne.symm hij), h.get j u hj]
inductive Put (n : Nat) (v : Value) (ts : List (Nat × Value)) : Option Tmp → List (Nat × Value) → Prop where
 | none : Put n v ts none ts
 | some {i : Nat} (h : Nat.blt i n = true) : Put n v ts (some i) ((i, v) :: ts)
def At (E : Env) (n : Nat) (D : List Deferred) (ts : List (Nat × Value)) (l : List HP) (K : Act → World → Prop) : Prop := ∀ a w, Fits n D ts a → Holds E w l → K a w
open Go Go.RowKit
def Knows (ts : List (Nat × Value)) (a : Act) : Prop := ∀ i v, look i ts = some v → a.tmps[i]? = some v
theorem Fits.knows {n : Nat} {D : List Deferred} {ts : List (Nat × Value)} {a : Act} (h : Fits n D ts a) : Knows ts a := h.get
theorem Knows.eval {ts : List (Nat × Value)} {a : Act} (h : Knows ts a) {x : Operand} {v : Value} (hx : ev ts x = some v) : a.eval x = v := by
 cases x with
 | tmp t => simp [Act.eval, h t v hx]
 | const u => simpa [ev, Act.eval] using hx
 | global g => simpa [ev, Act.eval] using hx
 | func f => simpa [ev, Act.eval] using hx
def Any (_ : World) : Prop := True
def bK (p : Addr) (v : Value) (w : World) : Prop := w.cell? p = some v
def Ev (P : Program) (ts : List (Nat × Value)) (op : Op) (v : Value) (φ : World → Prop) : Prop :=
 ∀ a w (d : Option Tmp) (ty : TypeId) (pos : String) (af : Array Edge) (g : Option (Nat × Bool)), Knows ts a → φ w → (execOp a.eval ⟨d, op, ty, pos, af, g⟩).run P w = .ok (.value v) w
section
variable {P : Program} {ts : List (Nat × Value)}
theorem ae {x : Operand} {v : Value} (hx : ev ts x = some v) : Ev P ts (.move x) v Any := by
 intro a w _ _ _ _ _ k _
 simp [execOp, k.eval hx]
theorem ax {x : Operand} {v : Value} (hx : ev ts x = some v) : Ev P ts (.assign x) v Any := by
 intro a w _ _ _ _ _ k _
 simp [execOp, k.eval hx]
theorem aq {c x y : Operand} {b : Bool} {u v : Value} (hc : ev ts c = some (.bool b)) (hx : ev ts x = some u) (hy : ev ts y = some v) : Ev P ts (.pick c x y) (if b then u else v) Any := by
 intro a w _ _ _ _ _ k _
 cases b <;> simp [execOp, k.eval hc, k.eval hx, k.eval hy, asBool]
theorem am {x : Operand} {p : Addr} (hx : ev ts x = some (.pointer (some p))) : Ev P ts (.nilCheck x) (.pointer (some p)) Any := by
 intro a w _ _ _ _ _ k _
 simp [execOp, k.eval hx]
theorem ev_load {t : TypeId} {x : Operand} {p : Addr} {v : Value} {d : TypeDesc} (hd : P.underlying t = some d) (hn : (match d with | .struct _ | .array _ _ => true | _ => false) = false)
 (hx : ev ts x = some (.pointer (some p))) : Ev P ts (.load t x) v (bK p v) := by
 intro a w _ _ _ _ _ k hc
 have hu : (underlying t).run P w = .ok d w := run_underlying hd w
 have ha : (isAgg t).run P w = .ok false w := by
  unfold isAgg
  simp only [Sem.run_bind, hu, Result.andThen_ok]
  cases d <;> simp_all
 unfold bK at hc
 simp [execOp, k.eval hx, Instr.loadAt, Instr.sureAddr, loadVar, ha, hc]
end
end Go.SL
namespace Go.SL
open Go Go.RowKit
section
variable {P : Program} {ts : List (Nat × Value)}
section
variable {d e s t t' : TypeId} {y : Operand} {k k' : IntKind} {a b : Int} {r : Bool} {ms : Array (String × TypeId)} {u v : Value} {c n o z : Nat} {w : World}
theorem aS {x : Operand} {r : Int} (hx : ev ts x = some (.int k a)) (hy : ev ts y = some (.int k b)) (hr : k.wrap (a + b) = r) : Ev P ts (.binOp .add t x y t') (.int k r) Any := by
 intro ac w _ _ _ _ _ kn _
 subst hr
 simp [execOp, kn.eval hx, kn.eval hy, binOp, Op.intArith, eqGuard]
theorem eu {x : Operand} {r : Int} (hx : ev ts x = some (.int k a)) (hy : ev ts y = some (.int k b)) (hr : k.wrap (a - b) = r) : Ev P ts (.binOp .sub t x y t') (.int k r) Any := by
 intro ac w _ _ _ _ _ kn _
 subst hr
 simp [execOp, kn.eval hx, kn.eval hy, binOp, Op.intArith, eqGuard]
theorem lU {x : Operand} {r : Int} (hx : ev ts x = some (.int k a)) (hy : ev ts y = some (.int k b)) (hr : k.wrap (a * b) = r) : Ev P ts (.binOp .mul t x y t') (.int k r) Any := by
 intro ac w _ _ _ _ _ kn _
 subst hr
 simp [execOp, kn.eval hx, kn.eval hy, binOp, Op.intArith, eqGuard]
theorem kJ {x : Operand} {r : Int} (hx : ev ts x = some (.int k a)) (hy : ev ts y = some (.int k b)) (hb : b ≠ 0) (hr : k.wrap (a.tdiv b) = r) : Ev P ts (.binOp .quo t x y t') (.int k r) Any := by
 intro ac w _ _ _ _ _ kn _
 subst hr
 simp [execOp, kn.eval hx, kn.eval hy, binOp, Op.intDiv, eqGuard, hb]
theorem kI {x : Operand} {r : Int} (hx : ev ts x = some (.int k a)) (hy : ev ts y = some (.int k b)) (hb : b ≠ 0) (hr : a.tmod b = r) : Ev P ts (.binOp .rem t x y t') (.int k r) Any := by
 intro ac w _ _ _ _ _ kn _
 subst hr
 simp [execOp, kn.eval hx, kn.eval hy, binOp, Op.intDiv, eqGuard, hb]
theorem jI {x : Operand} {r : Int} (hx : ev ts x = some (.int k a)) (hy : ev ts y = some (.int k' b)) (hb : 0 ≤ b) (hr : k.wrap (a * 2 ^ min b.toNat k.bits) = r) : Ev P ts (.binOp .shl t x y t') (.int k r) Any := by
 intro ac w _ _ _ _ _ kn _
 subst hr
 have : ¬ b < 0 := by omega
 simp [execOp, kn.eval hx, kn.eval hy, binOp, Op.shift, eqGuard, this]
theorem eZ {x : Operand} {r : Int} (hx : ev ts x = some (.int k a)) (hy : ev ts y = some (.int k' b)) (hb : 0 ≤ b) (hr : a.fdiv (2 ^ min b.toNat k.bits) = r) : Ev P ts (.binOp .shr t x y t') (.int k r) Any := by
 intro ac w _ _ _ _ _ kn _
 subst hr
 have : ¬ b < 0 := by omega
 simp [execOp, kn.eval hx, kn.eval hy, binOp, Op.shift, eqGuard, this]
theorem tN {x : Operand} {r : Int} (hx : ev ts x = some (.int k a)) (hy : ev ts y = some (.int k b)) (hr : bits .and k a b = r) : Ev P ts (.binOp .and t x y t') (.int k r) Any := by
 intro ac w _ _ _ _ _ kn _
 subst hr
 simp [execOp, kn.eval hx, kn.eval hy, binOp, intBits_and, eqGuard]
theorem rq {x : Operand} {r : Int} (hx : ev ts x = some (.int k a)) (hy : ev ts y = some (.int k b)) (hr : bits .or k a b = r) : Ev P ts (.binOp .or t x y t') (.int k r) Any := by
 intro ac w _ _ _ _ _ kn _
 subst hr
 simp [execOp, kn.eval hx, kn.eval hy, binOp, intBits_or, eqGuard]
theorem Cu {x : Operand} {r : Int} (hx : ev ts x = some (.int k a)) (hy : ev ts y = some (.int k b)) (hr : bits .xor k a b = r) : Ev P ts (.binOp .xor t x y t') (.int k r) Any := by
 intro ac w _ _ _ _ _ kn _
 subst hr
 simp [execOp, kn.eval hx, kn.eval hy, binOp, intBits_xor, eqGuard]
theorem pU {x : Operand} {r : Int} (hx : ev ts x = some (.int k a)) (hy : ev ts y = some (.int k b)) (hr : bits .andNot k a b = r) : Ev P ts (.binOp .andNot t x y t') (.int k r) Any := by
 intro ac w _ _ _ _ _ kn _
 subst hr
 simp [execOp, kn.eval hx, kn.eval hy, binOp, intBits_andNot, eqGuard]
theorem bl {x : Operand} (hx : ev ts x = some (.int k a)) (hy : ev ts y = some (.int k b)) (hr : decide (a < b) = r) : Ev P ts (.binOp .lss t x y t') (.bool r) Any := by
 intro ac w _ _ _ _ _ kn _
 subst hr
 simp [execOp, kn.eval hx, kn.eval hy, binOp, Op.intCmp, eqGuard]
theorem cG {x : Operand} (hx : ev ts x = some (.int k a)) (hy : ev ts y = some (.int k b)) (hr : decide (b < a) = r) : Ev P ts (.binOp .gtr t x y t') (.bool r) Any := by
 intro ac w _ _ _ _ _ kn _
 subst hr
 simp [execOp, kn.eval hx, kn.eval hy, binOp, Op.intCmp, eqGuard]
theorem lV {x : Operand} (hx : ev ts x = some (.int k a)) (hy : ev ts y = some (.int k b)) (hr : decide (b ≤ a) = r) : Ev P ts (.binOp .geq t x y t') (.bool r) Any := by
 intro ac w _ _ _ _ _ kn _
 subst hr
 simp [execOp, kn.eval hx, kn.eval hy, binOp, Op.intCmp, eqGuard]
theorem aH {x : Operand} (hx : ev ts x = some (.int k a)) (hy : ev ts y = some (.int k b)) (hr : decide (a = b) = r) : Ev P ts (.binOp .eql t x y t') (.bool r) Any := by
 intro ac w _ _ _ _ _ kn _
 subst hr
 by_cases h : a = b <;> simp [execOp, kn.eval hx, kn.eval hy, binOp, Op.intCmp, eqGuard, h]
theorem bX {x : Operand} (hx : ev ts x = some (.int k a)) (hy : ev ts y = some (.int k b)) (hr : decide (a ≠ b) = r) : Ev P ts (.binOp .neq t x y t') (.bool r) Any := by
 intro ac w _ _ _ _ _ kn _
 subst hr
 by_cases h : a = b <;> simp [execOp, kn.eval hx, kn.eval hy, binOp, Op.intCmp, eqGuard, h]
theorem dm {op : BinOp} {x : Operand} {r : Value} {a : Act} {d : Option Tmp} {ty : TypeId} {pos : String} {af : Array Edge} {g : Option (Nat × Bool)} (hx : a.eval x = u) (hy : a.eval y = v)
 (hg : (eqGuard op t x y u v).run P w = .ok () w) (hb : (binOp op t u v).run P w = .ok r w) : (execOp a.eval ⟨d, .binOp op t x y t', ty, pos, af, g⟩).run P w = .ok (.value r) w := by
 simp [execOp, hx, hy, hg, hb]
theorem jh (hs : binOp .eql t u v = (do pure (.bool (← Op.equal t u v)))) (h : ∀ d, (Op.equalIn (d + 1) t u v).run P w = .ok r w) : (binOp .eql t u v).run P w = .ok (.bool r) w := by
 rw [hs]
 simp only [Op.equal, Op.maxDepth, Sem.run_bind, h 9999, Result.andThen_ok, Sem.run_pure]
theorem nj (hs : binOp .neq t u v = (do pure (.bool (!(← Op.equal t u v))))) (h : ∀ d, (Op.equalIn (d + 1) t u v).run P w = .ok r w) : (binOp .neq t u v).run P w = .ok (.bool (!r)) w := by
 rw [hs]
 simp only [Op.equal, Op.maxDepth, Sem.run_bind, h 9999, Result.andThen_ok, Sem.run_pure]
theorem jf {x : Operand} {a b : Bool} (ht : P.underlying t = some .bool) (hx : ev ts x = some (.bool a)) (hy : ev ts y = some (.bool b)) (hr : (a == b) = r) : Ev P ts (.binOp .eql t x y t') (.bool r) Any := by
 intro ac w _ _ _ _ _ kn _
 subst hr
 exact dm (kn.eval hx) (kn.eval hy) (by simp [eqGuard]) (jh rfl fun d => by simp [Op.equalIn, run_underlying ht])
theorem cg {x : Operand} {a : Bool} (hx : ev ts x = some (.bool a)) (hr : (!a) = r) : Ev P ts (.unOp .not t x) (.bool r) Any := by
 intro ac w _ _ _ _ _ kn _
 subst hr
 simp [execOp, kn.eval hx, Op.unary]
theorem yA {x : Operand} {r : Int} (hx : ev ts x = some (.int k a)) (hr : k.wrap (0 - a) = r) : Ev P ts (.unOp .neg t x) (.int k r) Any := by
 intro ac w _ _ _ _ _ kn _
 subst hr
 simp [execOp, kn.eval hx, Op.unary, Op.intArith]
theorem bz {ds : TypeDesc} {x : Operand} {r : Int} (hs : P.underlying s = some ds) (hd : P.underlying d = some (.int k)) (hx : ev ts x = some (.int k' a)) (hr : k.wrap a = r) : Ev P ts (.convert s d x) (.int k r) Any := by
 intro ac w _ _ _ _ _ kn _
 subst hr
 simp [execOp, kn.eval hx, convert, run_underlying hs, run_underlying hd, Conv.intToInt]
theorem cz {x : Operand} (ht : P.underlying t = some (.interface ms)) (hx : ev ts x = some (.iface d v)) : Ev P ts (.binOp .eql t x (.const (.nilIface)) t') (.bool false) Any := by
 intro ac w _ _ _ _ _ kn _
 exact dm (kn.eval hx) (kn.eval (x := .const _) rfl) (by simp [eqGuard]) (jh rfl fun d => by simp [Op.equalIn, run_underlying ht])
theorem fv {x : Operand} (ht : P.underlying t = some (.interface ms)) (hx : ev ts x = some (.iface d v)) : Ev P ts (.binOp .neq t x (.const (.nilIface)) t') (.bool true) Any := by
 intro ac w _ _ _ _ _ kn _
 exact dm (kn.eval hx) (kn.eval (x := .const _) rfl) (by simp [eqGuard]) (nj (r := false) rfl fun d => by simp [Op.equalIn, run_underlying ht])
theorem im {x : Operand} (ht : P.underlying t = some (.interface ms)) (hx : ev ts x = some (.nilIface)) : Ev P ts (.binOp .eql t x (.const (.nilIface)) t') (.bool true) Any := by
 intro ac w _ _ _ _ _ kn _
 exact dm (kn.eval hx) (kn.eval (x := .const _) rfl) (by simp [eqGuard]) (jh rfl fun d => by simp [Op.equalIn, run_underlying ht])
theorem co {x : Operand} (ht : P.underlying t = some (.interface ms)) (hx : ev ts x = some (.nilIface)) : Ev P ts (.binOp .neq t x (.const (.nilIface)) t') (.bool false) Any := by
 intro ac w _ _ _ _ _ kn _
 exact dm (kn.eval hx) (kn.eval (x := .const _) rfl) (by simp [eqGuard]) (nj (r := true) rfl fun d => by simp [Op.equalIn, run_underlying ht])
theorem cX {x : Operand} {p : Option Addr} (ht : P.underlying t = some (.pointer e)) (hx : ev ts x = some (.pointer p)) (hr : p.isNone = r) : Ev P ts (.binOp .eql t x (.const (.pointer none)) t') (.bool r) Any := by
 intro ac w _ _ _ _ _ kn _
 subst hr
 exact dm (kn.eval hx) (kn.eval (x := .const _) rfl) (by simp [eqGuard]) (jh rfl fun d => by cases p <;> simp [Op.equalIn, run_underlying ht])
theorem uS {x : Operand} {p : Option Addr} (ht : P.underlying t = some (.pointer e)) (hx : ev ts x = some (.pointer p)) (hr : (!p.isNone) = r) : Ev P ts (.binOp .neq t x (.const (.pointer none)) t') (.bool r) Any := by
 intro ac w _ _ _ _ _ kn _
 subst hr
 exact dm (kn.eval hx) (kn.eval (x := .const _) rfl) (by simp [eqGuard]) (nj rfl fun d => by cases p <;> simp [Op.equalIn, run_underlying ht])
theorem jp {x : Operand} {p : Option Addr} {n' c' : Nat} (ht : P.underlying t = some (.slice e)) (hx : ev ts x = some (.slice p n c)) (hr : p.isNone = r) : Ev P ts (.binOp .eql t x (.const (Value.slice none n' c')) t') (.bool r) Any := by
 intro ac w _ _ _ _ _ kn _
 subst hr
 exact dm (kn.eval hx) (kn.eval (x := .const _) rfl) (by simp [eqGuard]) (jh rfl fun d => by cases p <;> simp [Op.equalIn, run_underlying ht])
theorem oF {x : Operand} {p : Option Addr} {n' c' : Nat} (ht : P.underlying t = some (.slice e)) (hx : ev ts x = some (.slice p n c)) (hr : (!p.isNone) = r) : Ev P ts (.binOp .neq t x (.const (Value.slice none n' c')) t') (.bool r) Any := by
 intro ac w _ _ _ _ _ kn _
 subst hr
 exact dm (kn.eval hx) (kn.eval (x := .const _) rfl) (by simp [eqGuard]) (nj rfl fun d => by cases p <;> simp [Op.equalIn, run_underlying ht])
theorem add_plain (b o n : Nat) : (⟨b, o, none⟩ : Addr).add n = ⟨b, o + n, none⟩ := by
 unfold Addr.add; split <;> simp_all
def ly (P : Program) (s : TypeId) (j : Nat) : Option Nat :=
 match P.underlying s with
 | some (.struct fields) => match fields[j]? with
  | some f => match P.info? f.type with
   | some i => if i.size = 0 then none else some f.offset
   | none => none
  | none => none
 | _ => none
theorem sw {j off : Nat} (h : ly P s j = some off) (b o : Nat) (w : World) : (Instr.fieldAt s (.pointer (some ⟨b, o, none⟩)) j).run P w = .ok (.pointer (some ⟨b, o + off, none⟩)) w := by
 unfold ly at h
 split at h
 · rename_i fields hu
   split at h
   · rename_i f hf
     split at h
     · rename_i i hi
       split at h
       · cases h
       · rename_i hz
         injection h with h
         subst h
         simp [Instr.fieldAt, run_underlying hu, hf, Instr.sureAddr, fieldPlace, sizeOf, typeInfo, hi, hz, add_plain]
     · cases h
   · cases h
 · cases h
theorem ab {x : Operand} {j off b : Nat} (h : ly P s j = some off) (hx : ev ts x = some (.pointer (some ⟨b, o, none⟩))) : Ev P ts (.fieldAddr s x j) (.pointer (some ⟨b, o + off, none⟩)) Any := by
 intro ac w _ _ _ _ _ kn _
 simp [execOp, kn.eval hx, sw h]
def ce (P : Program) (t : TypeId) (n : Nat) : Prop := (P.info? t).map (·.size) = some n
theorem bT (h : ce P t n) (w : World) : (sizeOf t).run P w = .ok n w := by
 unfold ce at h
 cases hi : P.info? t with
 | none => simp [hi] at h
 | some i => simp [hi] at h; simp [sizeOf, typeInfo, hi, h]
theorem Cv {x : Operand} {i : Int} {b : Nat} (ht : P.underlying t = some (.slice e)) (hz : ce P e z) (hx : ev ts x = some (.slice (some ⟨b, o, none⟩) n c)) (hy : ev ts y = some (.int k i)) (h0 : 0 ≤ i) (h1 : i < n) :
 Ev P ts (.indexAddr t x y) (.pointer (some ⟨b, o + i.toNat * z, none⟩)) Any := by
 intro ac w _ _ _ _ _ kn _
 simp [execOp, kn.eval hx, kn.eval hy, Instr.indexAt, asIntOf, run_underlying ht, bT hz, h0, h1, add_plain]
theorem aT {x : Operand} {i b : Nat} (ht : P.underlying t = some (.slice e)) (hz : ce P e z) (hx : ev ts x = some (.slice (some ⟨b, o, none⟩) n c)) (hy : ev ts y = some (.int k (i : Int))) (h1 : i < n) :
 Ev P ts (.indexAddr t x y) (.pointer (some ⟨b, o + i * z, none⟩)) Any := Cv ht hz hx hy (by omega) (by omega)
theorem Cw {x : Operand} {i : Int} {b : Nat} (ht : P.underlying t = some (.array n e)) (hz : ce P e z) (hx : ev ts x = some (.pointer (some ⟨b, o, none⟩))) (hy : ev ts y = some (.int k i)) (h0 : 0 ≤ i) (h1 : i < n) :
 Ev P ts (.indexAddr t x y) (.pointer (some ⟨b, o + i.toNat * z, none⟩)) Any := by
 intro ac w _ _ _ _ _ kn _
 simp [execOp, kn.eval hx, kn.eval hy, Instr.indexAt, asIntOf, run_underlying ht, Instr.sureAddr, bT hz, h0, h1, add_plain]
def iG (P : Program) (t : TypeId) : Option Bool :=
 match P.underlying t with
 | some (.struct _) | some (.array _ _) => some true
 | some _ => some false
 | none => none
theorem ij {b : Bool} (h : iG P t = some b) (w : World) : (isAgg t).run P w = .ok b w := by
 unfold iG at h
 unfold isAgg
 cases hu : P.underlying t with
 | none => rw [hu] at h; cases h
 | some d =>
  rw [hu] at h
  rw [Sem.run_bind, run_underlying hu, Result.andThen_ok]
  cases d <;> (injection h with h; subst h; rfl)
theorem aa {x : Operand} {p : Addr} (hd : iG P t = some false) (hx : ev ts x = some (.pointer (some p))) : Ev P ts (.load t x) v (bK p v) := by
 intro a w _ _ _ _ _ k hc
 unfold bK at hc
 simp [execOp, k.eval hx, Instr.loadAt, Instr.sureAddr, loadVar, ij hd, hc]
def gY (b o : Nat) (vs : List Value) (w : World) : Prop := ∀ j v, vs[j]? = some v → w.cell? ⟨b, o + j, none⟩ = some v
theorem el {b o : Nat} {w : World} : ∀ (vs : List Value) (i : Nat) (acc : Array Value), (∀ j v, vs[j]? = some v → w.cell? ⟨b, o + (i + j), none⟩ = some v) → (loadCellsFrom ⟨b, o, none⟩ i vs.length acc).run P w = .ok (acc ++ vs.toArray) w
 | [], i, acc, _ => by simp [loadCellsFrom]
 | v :: vs, i, acc, h => by
  have h0 := h 0 v (by simp)
  rw [Nat.add_zero] at h0
  have ih := el vs (i + 1) (acc.push v) fun j u hj => by
   have := h (j + 1) u (by simpa using hj)
   rw [show i + 1 + j = i + (j + 1) by omega]; exact this
  simp [loadCellsFrom, add_plain, h0, ih]
theorem ao {x : Operand} {b : Nat} {vs : List Value} (hd : iG P t = some true) (hz : ce P t n) (hn : vs.length = n) (hx : ev ts x = some (.pointer (some ⟨b, o, none⟩))) : Ev P ts (.load t x) (.agg vs.toArray) (gY b o vs) := by
 intro a w _ _ _ _ _ k hc
 subst hn
 have := el (P := P) vs 0 #[] (fun j v hj => by simpa using hc j v hj)
 simp [execOp, k.eval hx, Instr.loadAt, Instr.sureAddr, loadVar, ij hd, bT hz, loadCells, this]
end
end
class Has (b : Nat) (l : List HP) (o : outParam Obj) (r : outParam (List HP)) : Prop where
 sel : Sel (ob b o) l r
instance Has.head {b : Nat} {o : Obj} {l : List HP} : Has b (ob b o :: l) o l := ⟨.head⟩
instance (priority := low) Has.tail {b : Nat} {o : Obj} {l r : List HP} {p : HP} [h : Has b l o r] : Has b (p :: l) o (p :: r) := ⟨.tail h.sel⟩
section
variable {P : Program} {E : Env} {n : Nat} {D : List Deferred} {ts : List (Nat × Value)} {l : List HP} {ops : Array Oper} {Q : Exit → Act → World → Prop} {rest : List Oper}
section
variable {K : Act → World → Prop} {af : Array Edge} {t tb ty : TypeId} {fr pre r : List HP} {fn : Func} {G : Env → Prop} {f : FuncId} {o : Oper} {w : World} {c : Operand} {φ : World → Prop} {xs : List Operand} {a : Act} {d : Option Tmp} {y : Code} {X : Type}
theorem At.mono {K' : Act → World → Prop} (h : At E n D ts l K) (hk : ∀ a w, K a w → K' a w) : At E n D ts l K' := fun a w f s => hk a w (h a w f s)
theorem At.ent {l' : List HP} {K : Act → World → Prop} (e : Ent l l') (h : At E n D ts l' K) : At E n D ts l K := fun a w f s => h a w f (s.ent e)
def Sub : List (Nat × Value) → List (Nat × Value) → Prop
 | [], _ => True
 | (i, v) :: t, ts => look i ts = some v ∧ Sub t ts
theorem Sub.look : ∀ {t ts : List (Nat × Value)}, Sub t ts → ∀ {i : Nat} {v : Value}, SL.look i t = some v → SL.look i ts = some v
 | [], _, _, _, _, h => by simp [SL.look] at h
 | (j, u) :: t, ts, ⟨h0, h1⟩, i, v, h => by
  simp only [SL.look] at h
  cases hb : Nat.beq i j with
  | true =>
   rw [hb] at h
   simp at h
   rw [Nat.eq_of_beq_eq_true hb, ← h]; exact h0
  | false => rw [hb] at h; exact h1.look h
theorem Fits.sub {t : List (Nat × Value)} (h : Fits n D ts a) (s : Sub t ts) : Fits n D t a := ⟨h.size, h.defers, fun i v hi => h.get i v (s.look hi)⟩
theorem At.ex {α : Sort _} {g : α → HP} (s : Sel (HP.ex g) l r) (h : ∀ x, At E n D ts (g x :: r) K) : At E n D ts l K := fun a w f hw => by
 have h1 := hw.sel s
 obtain ⟨F1, F2, h2, h3, hd, ⟨x, hx⟩, hl⟩ := h1.star
 exact h x a w f ⟨hw.is, F1, F2, h2, h3, hd, hx, hl⟩
theorem At.pure {p : Prop} (s : Sel (HP.pure p) l r) (h : p → At E n D ts r K) : At E n D ts l K := fun a w f hw => by
 have h1 := hw.sel s
 obtain ⟨F1, F2, h2, h3, hd, hx, hl⟩ := h1.star
 exact h hx a w f ⟨hw.is, hl.mono h3⟩
theorem eP {p : Prop} (hp : ∀ w, Holds E w l → p) (h : p → At E n D ts l K) : At E n D ts l K := fun a w f hw => h (hp w hw) a w f hw
theorem L.nil (h : At E n D ts l (Q .normal)) : At E n D ts l (wpList P ops Q []) := h
theorem L.op (hg : o.guard = none) (h : At E n D ts l (fun a w => o.wp P a w (wpList P ops Q rest) Q)) : At E n D ts l (wpList P ops Q (o :: rest)) := fun a w f hw => by
 unfold wpList
 rw [if_pos (by simp [Region.wanted, hg])]
 exact .inl (h a w f hw)
theorem Ev.wp {op : Op} {v : Value} {φ : World → Prop} (h : Ev P ts op v φ) {a : Act} {w : World} {d : Option Tmp} {ty : TypeId} {pos : String} {af : Array Edge} {g : Option (Nat × Bool)} {K : Act → World → Prop} (k : Knows ts a) (hφ : φ w) (hk : K (a.put d v) w) :
 (Oper.mk d op ty pos af g).wp P a w K Q := by
 unfold Oper.wp
 rw [h a w d ty pos af g k hφ]
 exact hk
theorem L.val {op : Op} {v : Value} {i : Nat} {pos : String} (hi : Nat.blt i n = true) (hev : Ev P ts op v φ) (hφ : ∀ w, Holds E w l → φ w) (h : At E n D ((i, v) :: ts) l (wpList P ops Q rest)) :
 At E n D ts l (wpList P ops Q (⟨some i, op, ty, pos, af, none⟩ :: rest)) :=
 L.op rfl fun _a w f hw => hev.wp f.knows (hφ w hw) (h _ w (f.put i (Nat.le_of_ble_eq_true hi) v) hw)
theorem L.pure {op : Op} {v : Value} {i : Nat} {pos : String} (hi : Nat.blt i n = true) (hev : Ev P ts op v Any) (h : At E n D ((i, v) :: ts) l (wpList P ops Q rest)) :
 At E n D ts l (wpList P ops Q (⟨some i, op, ty, pos, af, none⟩ :: rest)) := L.val hi hev (fun _ _ => trivial) h
theorem L.on {j t : Nat} {b : Bool} (hg : o.guard = some (j, b)) (ht : (ops[j]?).bind (·.dst) = some t) (hv : look t ts = some (.bool b)) (h : At E n D ts l (fun a w => o.wp P a w (wpList P ops Q rest) Q)) : At E n D ts l (wpList P ops Q (o :: rest)) := fun a w f hw => by
 unfold wpList
 rw [if_pos (by simp [Region.wanted, hg, yielded, ht, f.get t _ hv])]
 exact .inl (h a w f hw)
theorem L.off {j t i : Nat} {b c : Bool} (hd : o.dst = some i) (hi : Nat.blt i n = true) (hg : o.guard = some (j, b)) (ht : (ops[j]?).bind (·.dst) = some t) (hv : look t ts = some (.bool c)) (hb : c = !b) (h : At E n D ((i, undef) :: ts) l (wpList P ops Q rest)) : At E n D ts l (wpList P ops Q (o :: rest)) := fun a w f hw => by
 unfold wpList
 rw [if_neg (by subst hb; cases b <;> simp [Region.wanted, hg, yielded, ht, f.get t _ hv]), hd]
 exact h _ w (f.put i (Nat.le_of_ble_eq_true hi) _) hw
theorem qo {op : Op} {v : Value} {i : Nat} {pos : String} {g : Option (Nat × Bool)} (hi : Nat.blt i n = true) (hev : Ev P ts op v φ) (hφ : ∀ w, Holds E w l → φ w) (h : At E n D ((i, v) :: ts) l K) :
 At E n D ts l (fun a w => (Oper.mk (some i) op ty pos af g).wp P a w K Q) := fun _a w f hw => hev.wp f.knows (hφ w hw) (h _ w (f.put i (Nat.le_of_ble_eq_true hi) v) hw)
theorem ag {b i : Nat} {cs : Array Value} {fz : Nat × Nat} {v : Value} [h : Has b l (.cells cs t fz) r] (hv : cs[i]? = some v) : ∀ w, Holds E w l → bK ⟨b, i, none⟩ v w := fun w hw => by
 have := (hw.ob h.sel).1
 simp [bK, World.cell?, this, hv]
theorem vg {b i : Nat} {cs : Array Value} {fz : Nat × Nat} {vs : List Value} [h : Has b l (.cells cs t fz) r] (hv : ∀ j v, vs[j]? = some v → cs[i + j]? = some v) : ∀ w, Holds E w l → gY b i vs w := fun w hw j v hj => by
 have := (hw.ob h.sel).1
 simp [World.cell?, this, hv j v hj]
theorem ye {i : Nat} {cs : Array Value} (hd : o.dst = some i) (hi : Nat.blt i n = true)
 (hr : (execOp a.eval o).run P w = .ok (.value (.pointer (some ⟨w.heap.size, 0, none⟩))) (w.alloc (.cells cs t)))
 (h : ∀ b, At E n D ((i, .pointer (some ⟨b, 0, none⟩)) :: ts) (blk b t cs :: l) K) (f : Fits n D ts a) (hw : Holds E w l) : o.wp P a w K Q := by
 unfold Oper.wp
 rw [hr]
 show K (a.put o.dst _) _
 rw [hd]
 exact h _ _ _ (f.put i (Nat.le_of_ble_eq_true hi) _) (hw.alloc _)
def fA (P : Program) (t : TypeId) (z : Value) : Prop := (P.info? t).bind (·.zero) = some z
theorem fj {z : Value} (h : fA P t z) (w : World) : (zeroValue t).run P w = .ok z w := by
 unfold fA at h
 cases hi : P.info? t with
 | none => simp [hi] at h
 | some i => simp [hi] at h; simp [zeroValue, typeInfo, hi, h]
theorem aN {i : Nat} {pos : String} {g : Option (Nat × Bool)} {z : Value} (hi : Nat.blt i n = true) (hz : fA P t z)
 (h : ∀ b, At E n D ((i, .pointer (some ⟨b, 0, none⟩)) :: ts) (blk b t z.cells :: l) K) : At E n D ts l (fun a w => (Oper.mk (some i) (.alloc t) ty pos af g).wp P a w K Q) := fun a w f hw =>
 ye rfl hi (by simp [execOp, Instr.alloc, fj hz, newVar, newRow]) h f hw
theorem cb {i : Nat} {pos : String} {g : Option (Nat × Bool)} {x : Operand} {v : Value} (hi : Nat.blt i n = true) (hx : ev ts x = some v)
 (h : ∀ b, At E n D ((i, .pointer (some ⟨b, 0, none⟩)) :: ts) (blk b t v.cells :: l) K) : At E n D ts l (fun a w => (Oper.mk (some i) (.box t x) ty pos af g).wp P a w K Q) := fun a w f hw =>
 ye rfl hi (by simp [execOp, Instr.box, f.eval hx, newVar, newRow]) h f hw
theorem Holds.store {E : Env} {l : List HP} {b i : Nat} {cs : Array Value} {v : Value} (h : Holds E w l) (s : Sel (blk b t cs) l r) : Holds E (w.setCell ⟨b, i, none⟩ v) (blk b t (cs.setIfInBounds i v) :: r) := by
 have h1 := h.sel s
 have hb := (h.ob s).1
 refine Holds.set (w := w) h1 rfl rfl rfl (by simp [World.setCell]) ?_ fun k hk => Below.heap_setCell _ _ _ _ (by simpa using hk)
 simp [World.setCell, hb, Array.getElem?_modify]
theorem ii {b i : Nat} {cs : Array Value} {v : Value} (hb : w.heap[b]? = some (.cells cs t)) (hi : i < cs.size) (hv : v.oneCell' = true) : (store ⟨b, i, none⟩ v).run P w = .ok () (w.setCell ⟨b, i, none⟩ v) := by
 rw [run_store P w _ _ _ hv]
 simp [World.cell?, World.frozen?, hb, hi]
theorem gT {v : Value} (h : v.oneCell' = true) : v.cells = #[v] := by cases v <;> simp_all [Value.oneCell', Value.cells]
theorem bB {pos : String} {g : Option (Nat × Bool)} {x y : Operand} {b i : Nat} {cs : Array Value} {v : Value} [hh : Has b l (.cells cs tb) r]
 (hd : d = none) (hz : ce P t 1) (hx : ev ts x = some (.pointer (some ⟨b, i, none⟩))) (hy : ev ts y = some v) (hv : v.oneCell' = true) (hi : i < cs.size)
 (h : At E n D ts (blk b tb (cs.setIfInBounds i v) :: r) K) : At E n D ts l (fun a w => (Oper.mk d (.store t x y) ty pos af g).wp P a w K Q) := fun a w f hw => by
 subst hd
 have hb := (hw.ob hh.sel).1
 have : (execOp a.eval ⟨none, .store t x y, ty, pos, af, g⟩).run P w = .ok .skip (w.setCell ⟨b, i, none⟩ v) := by
  simp [execOp, f.eval hx, f.eval hy, Instr.storeAt, Instr.sureAddr, storeVar, bT hz, gT hv, storeCells, add_plain, ii hb hi hv]
 unfold Oper.wp
 rw [this]
 exact h _ _ f (hw.store hh.sel)
def fg (cs : Array Value) (i : Nat) : List Value → Array Value
 | [] => cs
 | v :: vs => fg (cs.setIfInBounds i v) (i + 1) vs
theorem eD : ∀ (vs : List Value) (cs : Array Value) (i : Nat), (fg cs i vs).size = cs.size
 | [], _, _ => rfl
 | v :: vs, cs, i => by simp [fg, eD vs]
theorem fJ {b : Nat} {t : TypeId} : ∀ (vs : List Value) (w : World) (cs : Array Value) (o i : Nat), w.heap[b]? = some (.cells cs t) → o + i + vs.length ≤ cs.size → (∀ v ∈ vs, v.oneCell' = true) →
 ∃ w', (storeCells ⟨b, o, none⟩ vs i).run P w = .ok () w' ∧ w'.heap[b]? = some (.cells (fg cs (o + i) vs) t) ∧ w'.os = w.os ∧ w'.tape = w.tape ∧ w'.output = w.output ∧ w'.heap.size = w.heap.size ∧ (∀ k, k ≠ b → w'.heap[k]? = w.heap[k]?)
 | [], w, cs, o, i, hb, _, _ => ⟨w, by simp [storeCells], by simpa [fg] using hb, rfl, rfl, rfl, rfl, fun _ _ => rfl⟩
 | v :: vs, w, cs, o, i, hb, hl, hv => by
  simp only [List.length_cons] at hl
  have h1 := ii (P := P) (i := o + i) hb (by omega) (hv v (by simp))
  have hb' : (w.setCell ⟨b, o + i, none⟩ v).heap[b]? = some (.cells (cs.setIfInBounds (o + i) v) t) := by simp [World.setCell, hb, Array.getElem?_modify]
  obtain ⟨w', hr, h2, h3, h4, h5, h6, h7⟩ := fJ vs _ _ o (i + 1) hb' (by simp; omega) (fun u hu => hv u (by simp [hu]))
  refine ⟨w', ?_, ?_, h3, h4, h5, by rw [h6]; simp [World.setCell], fun k hk => (h7 k hk).trans (Below.heap_setCell _ _ _ _ (by simpa using hk))⟩
  · simp [storeCells, add_plain, h1, hr]
  · rw [h2]; simp [fg, Nat.add_assoc]
theorem aK {pos : String} {g : Option (Nat × Bool)} {x y : Operand} {b i m : Nat} {cs : Array Value} {vs : List Value} [hh : Has b l (.cells cs tb) r]
 (hd : d = none) (hz : ce P t m) (hx : ev ts x = some (.pointer (some ⟨b, i, none⟩))) (hy : ev ts y = some (.agg vs.toArray)) (hm : vs.length = m) (hv : ∀ v ∈ vs, v.oneCell' = true) (hi : i + vs.length ≤ cs.size)
 (h : At E n D ts (blk b tb (fg cs i vs) :: r) K) : At E n D ts l (fun a w => (Oper.mk d (.store t x y) ty pos af g).wp P a w K Q) := fun a w f hw => by
 subst hd
 subst hm
 have h0 := hw.sel hh.sel
 have hb := (hw.ob hh.sel).1
 obtain ⟨w', hr, h2, h3, h4, h5, h6, h7⟩ := fJ (P := P) vs w cs i 0 hb (by simpa using hi) hv
 have : (execOp a.eval ⟨none, .store t x y, ty, pos, af, g⟩).run P w = .ok .skip w' := by
  simp [execOp, f.eval hx, f.eval hy, Instr.storeAt, Instr.sureAddr, storeVar, bT hz, Value.cells, hr]
 unfold Oper.wp
 rw [this]
 exact h _ _ f (Holds.set h0 h3 h4 h5 h6 (by simpa using h2) h7)
theorem At.seq {x y : Code} (h : At E n D ts l (x.wp P (Exit.then (y.wp P Q) Q))) : At E n D ts l ((Code.seq x y).wp P Q) := fun a w f hw => wp_seq (h a w f hw)
theorem At.skip (h : At E n D ts l (Q .normal)) : At E n D ts l (Code.skip.wp P Q) := fun a w f hw => wp_skip (h a w f hw)
theorem At.exit {id : Nat} (h : At E n D ts l (Q (.exit id))) : At E n D ts l ((Code.exit id).wp P Q) := fun a w f hw => wp_exit (h a w f hw)
theorem At.ret (h : At E n D ts l (Q .ret)) : At E n D ts l (Code.ret.wp P Q) := fun a w f hw => wp_ret (h a w f hw)
theorem Ae {k : Nat} (h : At E n D ts l (Q .normal)) : At E n D ts l ((Code.label k).wp P Q) := fun a w f hw => wp_label (h a w f hw)
theorem At.block {id : Nat} {c : Code} (h : At E n D ts l (c.wp P (Exit.inBlock id Q))) : At E n D ts l ((Code.block id c).wp P Q) := fun a w f hw => wp_block (h a w f hw)
theorem At.region {id : Nat} {os : List Oper} (h : At E n D ts l (wpList P os.toArray Q os)) : At E n D ts l ((Code.region id os.toArray false).wp P Q) := fun a w f hw => wp_region_lit (h a w f hw)
theorem fG {c : Operand} {x y : Code} {b : Bool} (hc : ev ts c = some (.bool b)) (ht : b = true → At E n D ts l (x.wp P Q)) (hf : b = false → At E n D ts l (y.wp P Q)) : At E n D ts l ((Code.cond c x y).wp P Q) := fun a w f hw =>
 wp_cond_split (f.eval hc) (fun h => ht h a w f hw) (fun h => hf h a w f hw)
theorem aE {x : Code} {p : Prop} [Decidable p] (hc : ev ts c = some (.bool (decide p))) (ht : p → At E n D ts l (x.wp P Q)) (hf : ¬p → At E n D ts l (y.wp P Q)) : At E n D ts l ((Code.cond c x y).wp P Q) :=
 fG hc (fun h => ht (of_decide_eq_true h)) (fun h => hf (of_decide_eq_false h))
theorem aQ {x : Code} (hc : ev ts c = some (.bool true)) (h : At E n D ts l (x.wp P Q)) : At E n D ts l ((Code.cond c x y).wp P Q) := fun a w f hw => wp_cond_true (f.eval hc) (h a w f hw)
theorem aj {x : Code} (hc : ev ts c = some (.bool false)) (h : At E n D ts l (y.wp P Q)) : At E n D ts l ((Code.cond c x y).wp P Q) := fun a w f hw => wp_cond_false (f.eval hc) (h a w f hw)
theorem nL {p : Nat → Prop} (h : ∃ m, p m) : ∃ m, p m ∧ ∀ k, p k → m ≤ k := by
 obtain ⟨m, hm⟩ := h
 induction m using Nat.strongRecOn with
 | _ m ih =>
  by_cases hlt : ∃ k, k < m ∧ p k
  · obtain ⟨k, hk, hp⟩ := hlt
    exact ih k hk hp
  · exact ⟨m, hm, fun k hk => Nat.le_of_not_lt fun hl => hlt ⟨k, hl, hk⟩⟩
def rr {X : Type} (n : Nat) (D : List Deferred) (E : Env) (T : X → List (Nat × Value)) (L : X → List HP) (I : X → Prop) (μ : X → Nat) (m : Nat) (Q : Exit → Act → World → Prop) : Exit → Act → World → Prop
 | .normal, a, w => ∃ x, I x ∧ μ x < m ∧ Fits n D (T x) a ∧ Holds E w (L x)
 | e, a, w => Q e a w
theorem bk {X : Type} {c : Code} (T : X → List (Nat × Value)) (L : X → List HP) (I : X → Prop) (μ : X → Nat) (x0 : X) (h0 : I x0) (hs : Sub (T x0) ts) (hl : Ent l (L x0))
 (h : ∀ x, I x → At E n D (T x) (L x) (c.wp P (rr n D E T L I μ (μ x) Q))) : At E n D ts l ((Code.loop c).wp P Q) := fun a w f hw => by
 classical
 let J : Act → World → Nat → Prop := fun a w m => ∃ x, I x ∧ μ x = m ∧ Fits n D (T x) a ∧ Holds E w (L x)
 have key : ∀ m a w, J a w m → (Code.loop c).wp P Q a w := by
  intro m a w hJ
  refine wp_loop (fun a w => ∃ m, J a w m) (fun a w => if h : ∃ m, J a w m then Classical.choose (nL h) else 0) ⟨m, hJ⟩ ?_
  intro a w hex
  obtain ⟨hm, hmin⟩ := Classical.choose_spec (nL hex)
  obtain ⟨x, hI, hμ, hf, hH⟩ := hm
  refine Code.wp_mono ?_ (h x hI a w hf hH)
  intro e a' w' hq
  cases e with
  | normal =>
   obtain ⟨x', hI', hlt, hf', hH'⟩ := hq
   have hex' : ∃ m, J a' w' m := ⟨μ x', x', hI', rfl, hf', hH'⟩
   refine ⟨hex', ?_⟩
   rw [dif_pos hex', dif_pos hex]
   refine Nat.lt_of_le_of_lt ((Classical.choose_spec (nL hex')).2 _ ⟨x', hI', rfl, hf', hH'⟩) ?_
   rw [← hμ]; exact hlt
  | _ => exact hq
 exact key (μ x0) a w ⟨x0, h0, rfl, f.sub hs, hw.ent hl⟩
theorem At.round {T : X → List (Nat × Value)} {L : X → List HP} {I : X → Prop} {μ : X → Nat} {m : Nat} (x : X) (hI : I x) (hm : μ x < m) (hs : Sub (T x) ts) (hl : Ent l (L x)) : At E n D ts l (rr n D E T L I μ m Q .normal) :=
 fun _ _ f hw => ⟨x, hI, hm, f.sub hs, hw.ent hl⟩
theorem At.then {K : Act → World → Prop} (h : At E n D ts l K) : At E n D ts l (Exit.then K Q .normal) := h
theorem az {id : Nat} (h : At E n D ts l (Q (.exit id))) : At E n D ts l (Exit.then K Q (.exit id)) := h
theorem aG (h : At E n D ts l (Q .ret)) : At E n D ts l (Exit.then K Q .ret) := h
theorem an {id : Nat} (h : At E n D ts l (Q .normal)) : At E n D ts l (Exit.inBlock id Q .normal) := h
theorem aB {id : Nat} (h : At E n D ts l (Q .ret)) : At E n D ts l (Exit.inBlock id Q .ret) := h
theorem ar {id : Nat} (h : At E n D ts l (Q .normal)) : At E n D ts l (Exit.inBlock id Q (.exit id)) := fun a w f hw => by simpa [Exit.inBlock] using h a w f hw
theorem dM {id k : Nat} (hne : Nat.beq k id = false) (h : At E n D ts l (Q (.exit k))) : At E n D ts l (Exit.inBlock id Q (.exit k)) := fun a w f hw => by
 have : k ≠ id := fun e => by subst e; simp at hne
 simpa [Exit.inBlock, this] using h a w f hw
theorem ay {T : X → List (Nat × Value)} {L : X → List HP} {I : X → Prop} {μ : X → Nat} {m id : Nat} (h : At E n D ts l (Q (.exit id))) : At E n D ts l (rr n D E T L I μ m Q (.exit id)) := h
theorem cp {T : X → List (Nat × Value)} {L : X → List HP} {I : X → Prop} {μ : X → Nat} {m : Nat} (h : At E n D ts l (Q .ret)) : At E n D ts l (rr n D E T L I μ m Q .ret) := h
def Does (P : Program) (G : Env → Prop) (f : FuncId) (args : Array Value) (pre : List HP) (R : Value → List HP → Prop) : Prop :=
 ∀ E w fr, G E → Holds E w (pre ++ fr) → Calls P f args w fun e w' => ∃ v m, e = .returned v ∧ R v m ∧ Holds E w' (m ++ fr)
theorem Does.mono {G : Env → Prop} {f : FuncId} {args : Array Value} {pre : List HP} {R R' : Value → List HP → Prop} (h : Does P G f args pre R) (hR : ∀ v m, R v m → ∃ m', R' v m' ∧ Ent m m') : Does P G f args pre R' :=
 fun E w fr hE hw => (h E w fr hE hw).mono fun _ _ ⟨v, m, he, hr, hh⟩ => let ⟨m', hr', hm⟩ := hR v m hr; ⟨v, m', he, hr', hh.ent (hm.append fr)⟩
def kF (P : Program) (fn : Func) (E : Env) (fr : List HP) (R : Value → List HP → Prop) : Exit → Act → World → Prop :=
 bodyPost P fn fun e w' => ∃ v m, e = .returned v ∧ R v m ∧ Holds E w' (m ++ fr)
def eb : Nat → List Value → List (Nat × Value)
 | _, [] => []
 | i, v :: vs => (i, v) :: eb (i + 1) vs
theorem d8 : ∀ (vs : List Value) (i : Nat) (j : Nat) (v : Value), look j (eb i vs) = some v → i ≤ j ∧ vs[j - i]? = some v
 | [], _, _, _, h => by simp [eb, look] at h
 | u :: vs, i, j, v, h => by
  simp only [eb, look] at h
  cases hb : Nat.beq j i with
  | true =>
   rw [hb] at h
   simp at h
   have := Nat.eq_of_beq_eq_true hb
   subst this
   exact ⟨Nat.le_refl _, by simpa using h⟩
  | false =>
   rw [hb] at h
   obtain ⟨h1, h2⟩ := d8 vs (i + 1) j v h
   refine ⟨by omega, ?_⟩
   rw [show j - i = (j - (i + 1)) + 1 by omega]
   simpa using h2
theorem Does.body {c : Code} {args : List Value} {R : Value → List HP → Prop} (hf : P.funcs[f]? = some fn) (hb : fn.body = some c) (hn : Nat.ble args.length fn.ntmps = true)
 (h : ∀ E fr, G E → At E fn.ntmps [] (eb 0 args) (pre ++ fr) (c.wp P (kF P fn E fr R))) : Does P G f args.toArray pre R := by
 intro E w fr hE hw
 refine calls_of_wp hf hb (h E fr hE _ _ ⟨?_, rfl, ?_⟩ hw)
 · have := Nat.le_of_ble_eq_true hn
   simp; omega
 · intro i v hi
   obtain ⟨_, h2⟩ := d8 args 0 i v hi
   rw [Nat.sub_zero] at h2
   have hlt : i < args.length := (List.getElem?_eq_some_iff.1 h2).1
   simp [Array.getElem?_append, hlt, (List.getElem?_eq_some_iff.1 h2).2]
theorem bm {R : Value → List HP → Prop} (m : List HP) (hr : fn.results = #[]) (hR : R (.tuple #[]) m) (hm : Ent l (m ++ fr)) : At E n [] ts l (kF P fn E fr R .normal) := fun _ _ f hw =>
 ⟨f.defers, _, results_none hr _ _ _, _, m, rfl, hR, hw.ent hm⟩
theorem BA {R : Value → List HP → Prop} (m : List HP) (hr : fn.results = #[]) (hR : R (.tuple #[]) m) (hm : Ent l (m ++ fr)) : At E n [] ts l (kF P fn E fr R .ret) := fun _ _ f hw =>
 ⟨f.defers, _, results_none hr _ _ _, _, m, rfl, hR, hw.ent hm⟩
theorem gH {i : Nat} {v : Value} (h : a.tmps[i]? = some v) : a.tmps.getD i undef = v := by simp [h]
theorem aA {R : Value → List HP → Prop} {i : Nat} {v : Value} (m : List HP) (hr : fn.results = #[.tmp i]) (hv : look i ts = some v) (hR : R v m) (hm : Ent l (m ++ fr)) : At E n [] ts l (kF P fn E fr R .ret) := fun _ _ f hw =>
 ⟨f.defers, v, by rw [results_tmp hr, gH (f.get i v hv)], _, m, rfl, hR, hw.ent hm⟩
theorem cU {R : Value → List HP → Prop} {i j : Nat} {u v : Value} (m : List HP) (hr : fn.results = #[.tmp i, .tmp j]) (hu : look i ts = some u) (hv : look j ts = some v) (hR : R (.tuple #[u, v]) m) (hm : Ent l (m ++ fr)) : At E n [] ts l (kF P fn E fr R .ret) := fun _ _ f hw =>
 ⟨f.defers, _, by rw [results_tmp2 hr, gH (f.get i u hu), gH (f.get j v hv)], _, m, rfl, hR, hw.ent hm⟩
theorem qQ {i j k : Tmp} (h : fn.results = #[.tmp i, .tmp j, .tmp k]) (tmps : Array Value) (P : Program) (w : World) :
 (results fn tmps).run P w = .ok (.tuple #[tmps.getD i undef, tmps.getD j undef, tmps.getD k undef]) w := by
 simp [results, h]
theorem f8 {R : Value → List HP → Prop} {i j k : Nat} {u v x : Value} (m : List HP) (hr : fn.results = #[.tmp i, .tmp j, .tmp k]) (hu : look i ts = some u) (hv : look j ts = some v) (hx : look k ts = some x) (hR : R (.tuple #[u, v, x]) m) (hm : Ent l (m ++ fr)) : At E n [] ts l (kF P fn E fr R .ret) := fun _ _ f hw =>
 ⟨f.defers, _, by rw [qQ hr, gH (f.get i u hu), gH (f.get j v hv), gH (f.get k x hx)], _, m, rfl, hR, hw.ent hm⟩
def evs (ts : List (Nat × Value)) : List Operand → Option (List Value)
 | [] => some []
 | x :: xs => match ev ts x, evs ts xs with
  | some v, some vs => some (v :: vs)
  | _, _ => none
theorem cT {a : Act} (k : Knows ts a) : ∀ {xs : List Operand} {vs : List Value}, evs ts xs = some vs → xs.map a.eval = vs
 | [], vs, h => by simp [evs] at h; subst h; rfl
 | x :: xs, vs, h => by
  simp only [evs] at h
  split at h
  · rename_i v vs' h1 h2
    injection h with h
    subst h
    simp [k.eval h1, cT k h2]
  · cases h
def eM (P : Program) (f : FuncId) : Bool := match P.funcs[f]? with
 | some fn => fn.body.isSome && !(fn.name == "runtime.NumGoroutine")
 | none => false
theorem de (hb : eM P f = true) (args : Array Value) (w : World) : (callFunc f args).run P w = .ok (.enter f args) w := by
 unfold eM at hb
 split at hb
 · rename_i fn hf
   simp only [Bool.and_eq_true, Bool.not_eq_true'] at hb
   unfold callFunc
   simp only [Sem.run_bind, run_program, Result.andThen_ok, hf]
   rw [hb.2]
   simp only [Bool.false_eq_true, if_false]
   have : fn.body.isNone = false := by cases h : fn.body <;> simp_all
   rw [this]
   rfl
 · cases hb
theorem nB {args : Array Value} {R : Value → List HP → Prop} (hr : (execOp a.eval o).run P w = .ok (.enter f args) w) (hE : G E) (hs : Does P G f args pre R) (hw : Holds E w (pre ++ fr))
 (hk : ∀ v m w', R v m → Holds E w' (m ++ fr) → K (a.put o.dst v) w') : o.wp P a w K Q := by
 unfold Oper.wp
 rw [hr]
 refine (hs E w fr hE hw).mono fun e w' ⟨v, m, he, hR, hm⟩ => ?_
 subst he
 exact hk v m w' hR hm
theorem ah {i : Nat} {pos : String} {g : Option (Nat × Bool)} {at_ : Array TypeId} {args : List Value} {R : Value → List HP → Prop} (hi : Nat.blt i n = true)
 (hb : eM P f = true) (hx : evs ts xs = some args) (hE : G E) (hs : Does P G f args.toArray pre R) (hl : Ent l (pre ++ fr)) (h : ∀ v m, R v m → At E n D ((i, v) :: ts) (m ++ fr) K) :
 At E n D ts l (fun a w => (Oper.mk (some i) (.call { callee := .value (.func f), args := xs.toArray, argTypes := at_ }) ty pos af g).wp P a w K Q) := fun a w ft hw => by
 refine nB (f := f) (args := args.toArray) ?_ hE hs (hw.ent hl) fun v m w' hR hm => h v m hR _ w' (ft.put i (Nat.le_of_ble_eq_true hi) v) hm
 have := cT ft.knows hx
 simp [execOp, resolve, Deferred.ofValue, Act.eval, invoke, this, de hb]
theorem j6 {i : Nat} {pos : String} {g : Option (Nat × Bool)} {x : Operand} {first captured : Array Value} {at_ : Array TypeId} {args : List Value} {R : Value → List HP → Prop} (hi : Nat.blt i n = true)
 (hv : ev ts x = some (.func (.func f) first captured)) (hb : eM P f = true) (hx : evs ts xs = some args) (hE : G E) (hs : Does P G f (first ++ args.toArray ++ captured) pre R) (hl : Ent l (pre ++ fr)) (h : ∀ v m, R v m → At E n D ((i, v) :: ts) (m ++ fr) K) :
 At E n D ts l (fun a w => (Oper.mk (some i) (.call { callee := .value x, args := xs.toArray, argTypes := at_ }) ty pos af g).wp P a w K Q) := fun a w ft hw => by
 refine nB (f := f) (args := first ++ args.toArray ++ captured) ?_ hE hs (hw.ent hl) fun v m w' hR hm => h v m hR _ w' (ft.put i (Nat.le_of_ble_eq_true hi) v) hm
 have := cT ft.knows hx
 simp [execOp, resolve, Deferred.ofValue, ft.eval hv, invoke, this, de hb]
end
end
section
variable {P : Program} {ops : Array Oper} {Q : Exit → Act → World → Prop}
def fy (ops : Array Oper) (j i : Nat) : Bool :=
 match ops[j]? with
 | some o => o.after.any fun e => Region.binds .any e && e.on == i
 | none => false
def Sure (P : Program) (ops : Array Oper) (o : Oper) (v : Value) (φ : World → Prop) (a : Act) : Prop :=
 (Region.wanted o (yielded ops a.tmps) = true ∧ ∀ w, φ w → (execOp a.eval o).run P w = .ok (.value v) w) ∨ (Region.wanted o (yielded ops a.tmps) = false ∧ v = undef)
theorem Sure.wpOp {i : Nat} {o : Oper} {v : Value} {φ : World → Prop} {a : Act} (hi : ops[i]? = some o) (hy : Sure P ops o v φ a) {K : Act → World → Prop} {w : World} (hw : φ w) (h : K (a.put o.dst v) w) : wpOp P ops Q i K a w := by
 unfold Go.wpOp
 simp only [hi]
 rcases hy with ⟨h1, hv⟩ | ⟨h1, rfl⟩
 · simp only [h1, if_true, Oper.wp, hv w hw, Oper.upon]; exact .inl h
 · simp only [h1, Bool.false_eq_true, if_false]; exact h
theorem sg {j : Nat} {oi oj : Oper} (hj : ops[j]? = some oj) (hap : oi.apart ops oj = true) (hsi : ∀ cs b, oi.op ≠ .select cs b) {K : Act → World → Prop} {a : Act} {w : World} (h : wpOp P ops Q j K a w) :
 wpOp P ops Q j (fun a' w' => K a' w' ∧ execOp a'.eval oi = execOp a.eval oi ∧ Region.wanted oi (yielded ops a'.tmps) = Region.wanted oi (yielded ops a.tmps)) a w := by
 obtain ⟨_, _, h3⟩ := Oper.apart_spec hap
 have keep : ∀ (b : Act) (u : Value), b.tmps = a.tmps → execOp (b.put oj.dst u).eval oi = execOp a.eval oi ∧ Region.wanted oi (yielded ops (b.put oj.dst u).tmps) = Region.wanted oi (yielded ops a.tmps) := fun b u hb => by
  have e1 := execOp_put (ops := ops) oi hsi b oj.dst u h3
  have e2 := wanted_put (ops := ops) oi b oj.dst u h3
  have e3 : b.eval = a.eval := by funext x; cases x <;> simp [Act.eval, hb]
  rw [e1, e2, e3, hb]
  exact ⟨rfl, rfl⟩
 unfold wpOp at *
 simp only [hj] at *
 split
 · rename_i hw
   simp only [hw, if_true] at h
   rcases h with h | h
   · refine .inl ?_
     unfold Oper.wp at *
     generalize (execOp a.eval oj).run P w = r at *
     cases r with
     | ok n w' =>
      cases n <;> simp only [Oper.upon] at h ⊢ <;> first
       | exact ⟨h, keep a _ rfl⟩
       | exact ⟨h, keep { a with defers := _ } _ rfl⟩
       | exact Calls.mono h (fun e w'' he => by cases e <;> first | exact ⟨he, keep a _ rfl⟩ | exact he)
       | exact Rows.mono h (fun v w'' he => ⟨he, keep a _ rfl⟩)
     | halt x w' => cases x <;> simp only [Oper.upon] at h ⊢ <;> exact h
   · exact .inr h
 · rename_i hw
   simp only [hw] at h
   exact ⟨h, keep a _ rfl⟩
def ep (P : Program) (ops : Array Oper) (Q : Exit → Act → World → Prop) : Nat → Array Bool → List (Nat × (World → Prop)) → Act → World → Prop
 | 0, listed, _, a, w => Region.ready .any ops listed = [] ∧ Q .normal a w
 | fuel + 1, listed, S, a, w =>
  (Region.ready .any ops listed = [] → Q .normal a w) ∧
  ∀ j ∈ Region.ready .any ops listed, wpOp P ops Q j (fun a' w' => (∀ p ∈ S, fy ops j p.1 = false → p.2 w') ∧ ep P ops Q fuel (listed.setIfInBounds j true) (S.filter fun p => !fy ops j p.1) a' w') a w
theorem n5 : ∀ (fuel : Nat) (listed : Array Bool) (S : List (Nat × (World → Prop))) (a : Act) (w : World), ep P ops Q fuel listed S a w → wpAny P .any ops Q fuel listed a w
 | 0, _, _, _, _, h => h
 | fuel + 1, _listed, _S, _a, _w, h => ⟨h.1, fun j hj => wpOp_mono (fun a' w' h' => n5 fuel _ _ a' w' h'.2) (h.2 j hj)⟩
theorem mu : ∀ (fuel : Nat) (listed : Array Bool) (S S' : List (Nat × (World → Prop))) (a : Act) (w : World), (∀ p ∈ S', p ∈ S) → ep P ops Q fuel listed S a w → ep P ops Q fuel listed S' a w
 | 0, _, _, _, _, _, _, h => h
 | fuel + 1, listed, S, S', a, w, hs, h => ⟨h.1, fun j hj => wpOp_mono (fun a' w' ⟨h1, h2⟩ => ⟨fun p hp => h1 p (hs p hp), mu fuel _ _ _ a' w' (fun p hp => by
  obtain ⟨h3, h4⟩ := List.mem_filter.1 hp
  exact List.mem_filter.2 ⟨hs p h3, h4⟩) h2⟩) (h.2 j hj)⟩
theorem n7 : ∀ (fuel : Nat) (listed : Array Bool) (S S' : List (Nat × (World → Prop))) (a : Act) (w : World), (∀ p ∈ S', p ∈ S ∨ ∀ w, p.2 w) → ep P ops Q fuel listed S a w → ep P ops Q fuel listed S' a w
 | 0, _, _, _, _, _, _, h => h
 | fuel + 1, listed, S, S', a, w, hs, h => ⟨h.1, fun j hj => wpOp_mono (fun a' w' ⟨h1, h2⟩ => ⟨fun p hp hn => (hs p hp).elim (fun h => h1 p h hn) (fun h => h w'), n7 fuel _ _ _ a' w' (fun p hp => by
  obtain ⟨h3, h4⟩ := List.mem_filter.1 hp
  exact (hs p h3).imp_left fun h => List.mem_filter.2 ⟨h, h4⟩) h2⟩) (h.2 j hj)⟩
theorem jS (fuel : Nat) (listed : Array Bool) (S : List (Nat × (World → Prop))) (i : Nat) (a : Act) (w : World) (h : ep P ops Q fuel listed S a w) : ep P ops Q fuel listed ((i, Any) :: S) a w :=
 n7 fuel listed S _ a w (fun p hp => by
  rcases List.mem_cons.1 hp with rfl | hp
  · exact .inr fun _ => trivial
  · exact .inl hp) h
theorem gg {i : Nat} {oi : Oper} {v : Value} {φ : World → Prop} (hi : ops[i]? = some oi) (hsel : ∀ (j : Nat) (o : Oper) cs b, ops[j]? = some o → o.op ≠ .select cs b)
 (hQ : ∀ c a w, Q (.panic c) (a.put oi.dst v) w → Q (.panic c) a w) :
 ∀ (fuel : Nat) (listed : Array Bool) (S : List (Nat × (World → Prop))) (a : Act) (w : World),
  (∀ j oj, ops[j]? = some oj → j ≠ i → listed.getD j true = false → (∀ e ∈ oj.after, Region.binds .any e = true → e.on ≠ i) → oi.apart ops oj = true) →
  i ∈ Region.ready .any ops listed → Sure P ops oi v φ a → φ w → (∀ p ∈ S, p.2 w) →
  ep P ops Q fuel (listed.setIfInBounds i true) ((i, φ) :: S) (a.put oi.dst v) w → ep P ops Q (fuel + 1) listed S a w := by
 intro fuel
 induction fuel with
 | zero =>
  intro listed S a w _ hr hy hφ hS H
  refine ⟨fun h => (by rw [h] at hr; cases hr), fun j hj => ?_⟩
  by_cases hji : j = i
  · subst hji
    exact hy.wpOp hi hφ ⟨fun p hp _ => hS p hp, H⟩
  · have := ready_mono hj hji
    rw [H.1] at this
    cases this
 | succ fuel ih =>
  intro listed S a w hfree hr hy hφ hS H
  refine ⟨fun h => (by rw [h] at hr; cases hr), fun j hj => ?_⟩
  by_cases hji : j = i
  · subst hji
    exact hy.wpOp hi hφ ⟨fun p hp _ => hS p hp, mu _ _ _ _ _ _ (fun p hp => List.mem_cons_of_mem _ (List.mem_filter.1 hp).1) H⟩
  · have h1 := H.2 j (ready_mono hj hji)
    obtain ⟨hjun, oj, hoj, hall⟩ := mem_ready.1 hj
    have hnot : ∀ e ∈ oj.after, Region.binds .any e = true → e.on ≠ i := fun e he hb heq => by
     have h1 := hall e he hb
     have h0 := (mem_ready.1 hr).1
     rw [heq] at h1
     rcases Nat.lt_or_ge i listed.size with h' | h'
     · simp [h'] at h0 h1; rw [h0] at h1; cases h1
     · simp [Array.getElem?_eq_none h'] at h1
    have hap := hfree j oj hoj hji hjun hnot
    have hw : fy ops j i = false := by
     unfold fy
     rw [hoj]
     simp only [Array.any_eq_false]
     intro k hk
     simp only [Bool.and_eq_true, beq_iff_eq, not_and]
     exact fun hb => hnot _ (Array.getElem_mem hk) hb
    let fake : Oper := ⟨oi.dst, .move (.const v), 0, "", #[], none⟩
    have hfake : Yields P ops fake v a := .inl ⟨rfl, fun w => by simp [fake, execOp, Act.eval]⟩
    have hapf : fake.apart ops oj = true := by
     simp only [Oper.apart, Bool.and_eq_true] at hap ⊢
     refine ⟨hap.1, ?_⟩
     cases oj.dst <;> simp [fake, Oper.looksAt, Op.operands]
    have h2 := wpOp_put (oi := fake) hoj hapf (fun cs b => by simp [fake]) (fun cs b => hsel j oj cs b hoj) hQ hfake h1
    have h3 := sg (oi := oi) hoj hap (fun cs b => hsel i oi cs b hi) h2
    have hfree' : ∀ k ok, ops[k]? = some ok → k ≠ i → (listed.setIfInBounds j true).getD k true = false →
     (∀ e ∈ ok.after, Region.binds .any e = true → e.on ≠ i) → oi.apart ops ok = true := fun k ok hk hki hun hno => by
     refine hfree k ok hk hki ?_ hno
     by_cases hjk : j = k
     · subst hjk; exact hjun
     · rw [getD_set_ne true hjk] at hun; exact hun
    refine wpOp_mono (fun a' w' ⟨⟨_, h5, h6⟩, h7, h8⟩ => ⟨fun p hp hwp => h5 p (List.mem_cons_of_mem _ hp) hwp, ?_⟩) h3
    refine ih (listed.setIfInBounds j true) _ a' w' hfree' (ready_mono hr (Ne.symm hji)) ?_ (h5 (i, φ) (List.mem_cons_self ..) hw) ?_ ?_
    · unfold Sure at hy ⊢
      rw [h7, h8]; exact hy
    · intro p hp
      obtain ⟨h9, h10⟩ := List.mem_filter.1 hp
      exact h5 p (List.mem_cons_of_mem _ h9) (by simpa using h10)
    · rw [Array.setIfInBounds_comm _ _ hji]
      simp only [List.filter_cons, hw, Bool.not_false, if_true] at h6
      exact h6
def Kept (E : Env) (l : List HP) : List (Nat × (World → Prop)) → Prop
 | [] => True
 | p :: S => (∀ w, Holds E w l → p.2 w) ∧ Kept E l S
theorem Kept.nil {E : Env} {l : List HP} : Kept E l [] := trivial
theorem Kept.cons {E : Env} {l : List HP} {i : Nat} {φ : World → Prop} {S : List (Nat × (World → Prop))} (h : ∀ w, Holds E w l → φ w) (k : Kept E l S) : Kept E l ((i, φ) :: S) := ⟨h, k⟩
theorem Kept.all {E : Env} {l : List HP} : ∀ {S : List (Nat × (World → Prop))}, Kept E l S → ∀ {w : World}, Holds E w l → ∀ p ∈ S, p.2 w
 | [], _, _, _, p, hp => by cases hp
 | q :: S, ⟨h1, h2⟩, w, hw, p, hp => by
  rcases List.mem_cons.1 hp with rfl | hp
  · exact h1 w hw
  · exact Kept.all h2 hw p hp
def eL (P : Program) (ops : Array Oper) (Q : Exit → Act → World → Prop) (fuel : Nat) (listed : Array Bool) (S : List (Nat × (World → Prop))) (a : Act) (w : World) : Prop :=
 (∀ p ∈ S, p.2 w) → ep P ops Q fuel listed S a w
section
variable {E : Env} {n : Nat} {D : List Deferred} {ts : List (Nat × Value)} {l : List HP} {fuel : Nat} {listed : Array Bool} {S : List (Nat × (World → Prop))}
section
variable {af : Array Edge} {φ : World → Prop} {ty : TypeId}
def bo (Q : Exit → Act → World → Prop) : Exit → Act → World → Prop
 | .panic _, _, _ => False
 | e, a, w => Q e a w
theorem Dr.start {id : Nat} {os : List Oper} (hm : P.follows .mixedOrders = true) (h : At E n D ts l (eL P os.toArray (bo Q) os.length (Array.replicate os.length false) [])) : At E n D ts l ((Code.region id os.toArray true).wp P Q) := fun a w f hw => by
 refine wp_mono (Q := bo Q) (wp_region_any hm ?_) fun e a w h => by cases e <;> first | exact h | exact h.elim
 simp only [List.size_toArray]
 exact n5 _ _ _ _ _ (h a _ ⟨f.size, f.defers, f.get⟩ (hw.drawn _) (fun p hp => by cases hp))
theorem Dr.take (i : Nat) {d : Nat} {op : Op} {pos : String} {v : Value} (hs : Region.noSelect ops = true) (hi : ops[i]? = some ⟨some d, op, ty, pos, af, none⟩) (hd : Nat.blt d n = true)
 (hr : (Region.ready .any ops listed).contains i = true) (hf : Region.free .any ops listed i = true) (hev : Ev P ts op v φ) (hφ : ∀ w, Holds E w l → φ w)
 (h : At E n D ((d, v) :: ts) l (eL P ops (bo Q) fuel (listed.setIfInBounds i true) ((i, φ) :: S))) : At E n D ts l (eL P ops (bo Q) (fuel + 1) listed S) := fun a w f hw hS =>
 gg hi (Region.noSelect_spec hs) (fun _ _ _ h => h.elim) fuel listed S a w (Region.free_spec hi hf) (by simpa using hr) (.inl ⟨rfl, fun w hw => hev a w _ _ _ _ _ f.knows hw⟩) (hφ w hw) hS
  (h _ w (f.put d (Nat.le_of_ble_eq_true hd) v) hw (fun p hp => by
   rcases List.mem_cons.1 hp with rfl | hp
   · exact hφ w hw
   · exact hS p hp))
theorem Dr.pure (i : Nat) {d : Nat} {op : Op} {pos : String} {v : Value} (hs : Region.noSelect ops = true) (hi : ops[i]? = some ⟨some d, op, ty, pos, af, none⟩) (hd : Nat.blt d n = true)
 (hr : (Region.ready .any ops listed).contains i = true) (hf : Region.free .any ops listed i = true) (hev : Ev P ts op v Any)
 (h : At E n D ((d, v) :: ts) l (eL P ops (bo Q) fuel (listed.setIfInBounds i true) S)) : At E n D ts l (eL P ops (bo Q) (fuel + 1) listed S) := fun a w f hw hS => by
 have hS' : ∀ p ∈ (i, Any) :: S, p.2 w := fun p hp => by
  rcases List.mem_cons.1 hp with rfl | hp
  · trivial
  · exact hS p hp
 refine gg hi (Region.noSelect_spec hs) (fun _ _ _ h => h.elim) fuel listed S a w (Region.free_spec hi hf) (by simpa using hr) (.inl ⟨rfl, fun w hw => hev a w _ _ _ _ _ f.knows hw⟩) trivial hS ?_
 exact jS fuel _ S i _ w (h _ w (f.put d (Nat.le_of_ble_eq_true hd) v) hw hS)
theorem Dr.on (i : Nat) {_o : Oper} {op : Op} {pos : String} {d j t : Nat} {b : Bool} {v : Value} (hs : Region.noSelect ops = true) (hi : ops[i]? = some ⟨some d, op, ty, pos, af, some (j, b)⟩) (hd : Nat.blt d n = true) (ht : (ops[j]?).bind (·.dst) = some t) (hv : look t ts = some (.bool b))
 (hr : (Region.ready .any ops listed).contains i = true) (hf : Region.free .any ops listed i = true) (hev : Ev P ts op v φ) (hφ : ∀ w, Holds E w l → φ w)
 (h : At E n D ((d, v) :: ts) l (eL P ops (bo Q) fuel (listed.setIfInBounds i true) ((i, φ) :: S))) : At E n D ts l (eL P ops (bo Q) (fuel + 1) listed S) := fun a w f hw hS =>
 gg hi (Region.noSelect_spec hs) (fun _ _ _ h => h.elim) fuel listed S a w (Region.free_spec hi hf) (by simpa using hr) (.inl ⟨by simp [Region.wanted, yielded, ht, f.get t _ hv], fun w hw => hev a w _ _ _ _ _ f.knows hw⟩) (hφ w hw) hS
  (h _ w (f.put d (Nat.le_of_ble_eq_true hd) v) hw (fun p hp => by
   rcases List.mem_cons.1 hp with rfl | hp
   · exact hφ w hw
   · exact hS p hp))
theorem Dr.run (j : Nat) {o : Oper} (hi : ops[j]? = some o) (hg : o.guard = none) (hr : Region.ready .any ops listed = [j])
 (h : At E n D ts l (fun a w => o.wp P a w (fun a' w' => (∀ p ∈ S, fy ops j p.1 = false → p.2 w') ∧ ep P ops (bo Q) fuel (listed.setIfInBounds j true) (S.filter fun p => !fy ops j p.1) a' w') (bo Q))) :
 At E n D ts l (eL P ops (bo Q) (fuel + 1) listed S) := fun a w f hw _ => by
 refine ⟨fun h0 => (by rw [h0] at hr; cases hr), ?_⟩
 rw [hr]
 intro k hk
 simp at hk
 subst hk
 unfold wpOp
 simp only [hi, Region.wanted, hg, if_true]
 exact .inl (h a w f hw)
theorem gJ (j k : Nat) {o u : Oper} (hi : ops[j]? = some o) (hg : o.guard = none) (hk : ops[k]? = some u) (hu : u.guard = none) (hr : Region.ready .any ops listed = [j, k])
 (h : At E n D ts l (fun a w => o.wp P a w (fun a' w' => (∀ p ∈ S, fy ops j p.1 = false → p.2 w') ∧ ep P ops (bo Q) fuel (listed.setIfInBounds j true) (S.filter fun p => !fy ops j p.1) a' w') (bo Q)))
 (h' : At E n D ts l (fun a w => u.wp P a w (fun a' w' => (∀ p ∈ S, fy ops k p.1 = false → p.2 w') ∧ ep P ops (bo Q) fuel (listed.setIfInBounds k true) (S.filter fun p => !fy ops k p.1) a' w') (bo Q))) :
 At E n D ts l (eL P ops (bo Q) (fuel + 1) listed S) := fun a w f hw _ => by
 refine ⟨fun h0 => (by rw [h0] at hr; cases hr), ?_⟩
 rw [hr]
 intro x hx
 simp at hx
 unfold wpOp
 rcases hx with rfl | rfl
 · simp only [hi, Region.wanted, hg, if_true]
   exact .inl (h a w f hw)
 · simp only [hk, Region.wanted, hu, if_true]
   exact .inl (h' a w f hw)
def pick : List Bool → List (Nat × (World → Prop)) → List (Nat × (World → Prop))
 | true :: m, p :: S => p :: pick m S
 | false :: m, _ :: S => pick m S
 | _, _ => []
theorem jT {f : Nat → Bool} : ∀ {S : List (Nat × (World → Prop))} {em : List Bool}, (S.map fun p => f p.1) = em → (S.filter fun p => f p.1) = pick em S
 | [], em, h => by subst h; rfl
 | p :: S, em, h => by
  subst h
  simp only [List.map_cons, List.filter_cons]
  cases hf : f p.1 with
  | true => simp only [if_true, pick]; rw [jT rfl]
  | false => simp only [Bool.false_eq_true, if_false, pick]; rw [jT rfl]
theorem Dr.kept {j : Nat} (em : List Bool) (hm : (S.map fun p => !fy ops j p.1) = em) (hk : Kept E l (pick em S)) (h : At E n D ts l (eL P ops (bo Q) fuel (listed.setIfInBounds j true) (pick em S))) :
 At E n D ts l (fun a' w' => (∀ p ∈ S, fy ops j p.1 = false → p.2 w') ∧ ep P ops (bo Q) fuel (listed.setIfInBounds j true) (S.filter fun p => !fy ops j p.1) a' w') := fun a w f hw => by
 have hS := jT (f := fun i => !fy ops j i) hm
 rw [hS]
 have := hk.all hw
 refine ⟨fun p hp hn => this p ?_, h a w f hw this⟩
 rw [← hS]
 exact List.mem_filter.2 ⟨hp, by simp [hn]⟩
theorem Dr.done (hr : Region.ready .any ops listed = []) (h : At E n D ts l (Q .normal)) : At E n D ts l (eL P ops (bo Q) fuel listed S) := fun a w f hw _ => by
 cases fuel with
 | zero => exact ⟨hr, h a w f hw⟩
 | succ m => exact ⟨fun _ => h a w f hw, by rw [hr]; simp⟩
end
end
end
section
variable {P : Program} {E : Env} {n : Nat} {D : List Deferred} {ts : List (Nat × Value)} {l : List HP} {ops : Array Oper} {Q : Exit → Act → World → Prop} {rest : List Oper} {i : Nat} {ty : TypeId} {pos : String} {af : Array Edge}
section
variable {fr r : List HP} {q : HP} {X : Type} {tb : TypeId}
theorem aL {K : Act → World → Prop} (h : At E n D ts fr K) : At E n D ts ([] ++ fr) K := h
theorem ai {p : HP} {K : Act → World → Prop} (h : At E n D ts (p :: fr) K) : At E n D ts ([p] ++ fr) K := h
theorem aJ {p : HP} {K : Act → World → Prop} (h : At E n D ts (p :: q :: fr) K) : At E n D ts ([p, q] ++ fr) K := h
theorem cE {p r : HP} {K : Act → World → Prop} (h : At E n D ts (p :: q :: r :: fr) K) : At E n D ts ([p, q, r] ++ fr) K := h
theorem cB {p r s : HP} {K : Act → World → Prop} (h : At E n D ts (p :: q :: r :: s :: fr) K) : At E n D ts ([p, q, r, s] ++ fr) K := h
theorem bF {p r s t : HP} {K : Act → World → Prop} (h : At E n D ts (p :: q :: r :: s :: t :: fr) K) : At E n D ts ([p, q, r, s, t] ++ fr) K := h
theorem L.mv {x : Operand} {v : Value} (hi : Nat.blt i n = true) (hx : ev ts x = some v) (h : At E n D ((i, v) :: ts) l (wpList P ops Q rest)) : At E n D ts l (wpList P ops Q (⟨some i, .move x, ty, pos, af, none⟩ :: rest)) := L.pure hi (ae hx) h
theorem L.as {x : Operand} {v : Value} (hi : Nat.blt i n = true) (hx : ev ts x = some v) (h : At E n D ((i, v) :: ts) l (wpList P ops Q rest)) : At E n D ts l (wpList P ops Q (⟨some i, .assign x, ty, pos, af, none⟩ :: rest)) := L.pure hi (ax hx) h
theorem aR {x : Operand} {p : Addr} (hi : Nat.blt i n = true) (hx : ev ts x = some (.pointer (some p))) (h : At E n D ((i, .pointer (some p)) :: ts) l (wpList P ops Q rest)) : At E n D ts l (wpList P ops Q (⟨some i, .nilCheck x, ty, pos, af, none⟩ :: rest)) := L.pure hi (am hx) h
theorem aI (off : Nat) {s : TypeId} {x : Operand} {j b o : Nat} (hi : Nat.blt i n = true) (hf : ly P s j = some off) (hx : ev ts x = some (.pointer (some ⟨b, o, none⟩))) (h : At E n D ((i, .pointer (some ⟨b, o + off, none⟩)) :: ts) l (wpList P ops Q rest)) :
 At E n D ts l (wpList P ops Q (⟨some i, .fieldAddr s x j, ty, pos, af, none⟩ :: rest)) := L.pure hi (ab hf hx) h
theorem bd {t : TypeId} {x : Operand} {b o : Nat} {cs : Array Value} {fz : Nat × Nat} {v : Value} [hh : Has b l (.cells cs tb fz) r] (hi : Nat.blt i n = true) (hd : iG P t = some false) (hx : ev ts x = some (.pointer (some ⟨b, o, none⟩))) (hv : cs[o]? = some v)
 (h : At E n D ((i, v) :: ts) l (wpList P ops Q rest)) : At E n D ts l (wpList P ops Q (⟨some i, .load t x, ty, pos, af, none⟩ :: rest)) := L.val hi (aa hd hx) (ag hv) h
theorem L.st {t : TypeId} {x y : Operand} {b o : Nat} {cs : Array Value} {v : Value} [hh : Has b l (.cells cs tb) r] (hz : ce P t 1) (hx : ev ts x = some (.pointer (some ⟨b, o, none⟩))) (hy : ev ts y = some v) (hv : v.oneCell' = true) (hi : o < cs.size)
 (h : At E n D ts (blk b tb (cs.setIfInBounds o v) :: r) (wpList P ops Q rest)) : At E n D ts l (wpList P ops Q (⟨none, .store t x y, ty, pos, af, none⟩ :: rest)) := L.op rfl (bB rfl hz hx hy hv hi h)
theorem bc {x : Operand} {vs : Array Value} {k : Nat} {v : Value} (hx : ev ts x = some (.tuple vs)) (hv : vs[k]? = some v) : Ev P ts (.extract x k) v Any := by
 intro a w _ _ _ _ _ kn _
 simp [execOp, kn.eval hx, Instr.extract, hv]
theorem L.ex {x : Operand} {vs : Array Value} {k : Nat} {v : Value} (hi : Nat.blt i n = true) (hx : ev ts x = some (.tuple vs)) (hv : vs[k]? = some v) (h : At E n D ((i, v) :: ts) l (wpList P ops Q rest)) : At E n D ts l (wpList P ops Q (⟨some i, .extract x k, ty, pos, af, none⟩ :: rest)) := L.pure hi (bc hx hv) h
theorem aM {t t' : TypeId} {x : Operand} {p : Option Addr} {m c : Nat} (ht : P.underlying t = some (.slice t')) (hx : ev ts x = some (.slice p m c)) : Ev P ts (.call { callee := .builtin .len, args := #[x], argTypes := #[t] }) (.int .i64 m) Any := by
 intro a w _ _ _ _ _ kn _
 simp [execOp, resolve, invoke, builtin, Builtin.len_, kn.eval hx, run_underlying ht, goInt]
theorem cO {t : TypeId} {d : TypeDesc} {x : Operand} {v : Value} (ht : P.underlying t = some d) (hd : (match d with | .interface _ => true | _ => false) = false) (hx : ev ts x = some v) : Ev P ts (.makeInterface t x) (.iface t v) Any := by
 intro a w _ _ _ _ _ kn _
 simp only [execOp, kn.eval hx, Instr.makeInterface, Sem.run_bind, run_underlying ht, Result.andThen_ok]
 cases d <;> simp_all
theorem eO {fn : Fn} {xs ys : List Operand} {us vs : List Value} (hx : evs ts xs = some us) (hy : evs ts ys = some vs) : Ev P ts (.makeFunc fn xs.toArray ys.toArray) (.func fn us.toArray vs.toArray) Any := by
 intro a w _ _ _ _ _ kn _
 simp [execOp, Instr.makeFunc, cT kn hx, cT kn hy]
theorem dd {x : Int} (h : -9223372036854775808 ≤ x ∧ x ≤ 9223372036854775807) : IntKind.i64.wrap x = x := IntWalk.i64_in x h
theorem wu64 {x : Int} (h : 0 ≤ x ∧ x ≤ 18446744073709551615) : IntKind.u64.wrap x = x := IntWalk.u64_in x h
theorem wu8 {x : Int} (h : 0 ≤ x ∧ x ≤ 255) : IntKind.u8.wrap x = x := IntWalk.u8_in x h
theorem wu32 {x : Int} (h : 0 ≤ x ∧ x ≤ 4294967295) : IntKind.u32.wrap x = x := IntWalk.u32_in x h
theorem kE (x : Int) : IntKind.u64.wrap x = x % 18446744073709551616 := by simp [IntKind.wrap, IntKind.bits, IntKind.signed]
def BS {X : Type} (n : Nat) (D : List Deferred) (E : Env) (T : X → List (Nat × Value)) (L : X → List HP) (I : X → Prop) (Q : Exit → Act → World → Prop) : Exit → Act → World → Prop
 | .normal, a, w => ∃ x, I x ∧ Fits n D (T x) a ∧ Holds E w (L x)
 | e, a, w => Q e a w
theorem At.cut {c : Code} {K : Act → World → Prop} (T : X → List (Nat × Value)) (L : X → List HP) (I : X → Prop) (h1 : At E n D ts l (c.wp P (BS n D E T L I Q))) (h2 : ∀ x, I x → At E n D (T x) (L x) K) : At E n D ts l (c.wp P (Exit.then K Q)) :=
 fun a w f hw => Code.wp_mono (fun e a' w' hq => by
  cases e with
  | normal => obtain ⟨x, hI, hf, hH⟩ := hq; exact h2 x hI a' w' hf hH
  | _ => exact hq) (h1 a w f hw)
theorem bb {T : X → List (Nat × Value)} {L : X → List HP} {I : X → Prop} (x : X) (hI : I x) (hs : Sub (T x) ts) (hl : Ent l (L x)) : At E n D ts l (BS n D E T L I Q .normal) := fun _ _ f hw => ⟨x, hI, f.sub hs, hw.ent hl⟩
theorem ve {T : X → List (Nat × Value)} {L : X → List HP} {I : X → Prop} (h : At E n D ts l (Q .ret)) : At E n D ts l (BS n D E T L I Q .ret) := h
end
end
section
variable {P : Program} {E : Env} {n : Nat} {D : List Deferred} {ts : List (Nat × Value)} {l : List HP} {ops : Array Oper} {Q : Exit → Act → World → Prop} {fuel : Nat} {listed : Array Bool} {S : List (Nat × (World → Prop))}
def dX (ops : Array Oper) (listed : Array Bool) (i : Nat) : Bool := Region.noSelect ops && (Region.ready .any ops listed).contains i && Region.free .any ops listed i
theorem Dr.p (i : Nat) {d : Nat} {op : Op} {ty : TypeId} {pos : String} {af : Array Edge} {v : Value} (hi : ops[i]? = some ⟨some d, op, ty, pos, af, none⟩) (hd : Nat.blt d n = true) (hm : dX ops listed i = true) (hev : Ev P ts op v Any)
 (h : At E n D ((d, v) :: ts) l (eL P ops (bo Q) fuel (listed.setIfInBounds i true) S)) : At E n D ts l (eL P ops (bo Q) (fuel + 1) listed S) := by
 simp only [dX, Bool.and_eq_true] at hm
 exact Dr.pure i hm.1.1 hi hd hm.1.2 hm.2 hev h
theorem Dr.ld (i : Nat) {d : Nat} {op : Op} {ty : TypeId} {pos : String} {af : Array Edge} {v : Value} {φ : World → Prop} (hi : ops[i]? = some ⟨some d, op, ty, pos, af, none⟩) (hd : Nat.blt d n = true) (hm : dX ops listed i = true) (hev : Ev P ts op v φ) (hφ : ∀ w, Holds E w l → φ w)
 (h : At E n D ((d, v) :: ts) l (eL P ops (bo Q) fuel (listed.setIfInBounds i true) ((i, φ) :: S))) : At E n D ts l (eL P ops (bo Q) (fuel + 1) listed S) := by
 simp only [dX, Bool.and_eq_true] at hm
 exact Dr.take i hm.1.1 hi hd hm.1.2 hm.2 hev hφ h
end
section
variable {P : Program} {E : Env} {n : Nat} {D : List Deferred} {ts : List (Nat × Value)} {l : List HP} {ops : Array Oper} {Q : Exit → Act → World → Prop} {rest : List Oper} {ty : TypeId} {pos : String} {af : Array Edge} {fuel : Nat} {listed : Array Bool} {S : List (Nat × (World → Prop))} {d j t : Nat} {b : Bool} {op : Op} {v : Value} {φ : World → Prop}
theorem Z {α : Sort _} {a : α} : a = a := rfl
theorem dP (i : Nat) (hi : ops[i]? = some ⟨some d, op, ty, pos, af, none⟩) (hd : Nat.blt d n = true) (hev : Ev P ts op v Any) (h : At E n D ((d, v) :: ts) l (eL P ops (bo Q) fuel (listed.setIfInBounds i true) S)) (hm : dX ops listed i = true := by kernel_rfl) : At E n D ts l (eL P ops (bo Q) (fuel + 1) listed S) := Dr.p i hi hd hm hev h
theorem dL (i : Nat) (hi : ops[i]? = some ⟨some d, op, ty, pos, af, none⟩) (hd : Nat.blt d n = true) (hev : Ev P ts op v φ) (hφ : ∀ w, Holds E w l → φ w) (h : At E n D ((d, v) :: ts) l (eL P ops (bo Q) fuel (listed.setIfInBounds i true) ((i, φ) :: S))) (hm : dX ops listed i = true := by kernel_rfl) : At E n D ts l (eL P ops (bo Q) (fuel + 1) listed S) := Dr.ld i hi hd hm hev hφ h
theorem dR (j : Nat) {o : Oper} (hi : ops[j]? = some o) (hg : o.guard = none) (h : At E n D ts l (fun a w => o.wp P a w (fun a' w' => (∀ p ∈ S, fy ops j p.1 = false → p.2 w') ∧ ep P ops (bo Q) fuel (listed.setIfInBounds j true) (S.filter fun p => !fy ops j p.1) a' w') (bo Q))) (hr : Region.ready .any ops listed = [j] := by kernel_rfl) : At E n D ts l (eL P ops (bo Q) (fuel + 1) listed S) := Dr.run j hi hg hr h
theorem dE (h : At E n D ts l (Q .normal)) (hr : Region.ready .any ops listed = [] := by kernel_rfl) : At E n D ts l (eL P ops (bo Q) fuel listed S) := Dr.done hr h
theorem dK (em : List Bool) (hk : Kept E l (pick em S)) (h : At E n D ts l (eL P ops (bo Q) fuel (listed.setIfInBounds j true) (pick em S))) (hm : (S.map fun p => !fy ops j p.1) = em := by kernel_rfl) : At E n D ts l (fun a' w' => (∀ p ∈ S, fy ops j p.1 = false → p.2 w') ∧ ep P ops (bo Q) fuel (listed.setIfInBounds j true) (S.filter fun p => !fy ops j p.1) a' w') := Dr.kept em hm hk h
theorem lA {i : Nat} (ht : (ops[j]?).bind (·.dst) = some t) (hv : look t ts = some (.bool b)) (hi : Nat.blt i n = true) (hev : Ev P ts op v φ) (hφ : ∀ w, Holds E w l → φ w) (h : At E n D ((i, v) :: ts) l (wpList P ops Q rest)) : At E n D ts l (wpList P ops Q (⟨some i, op, ty, pos, af, some (j, b)⟩ :: rest)) := L.on rfl ht hv (qo hi hev hφ h)
theorem lT {i : Nat} (ht : (ops[j]?).bind (·.dst) = some t) (hv : look t ts = some (.bool b)) (hi : Nat.blt i n = true) (hev : Ev P ts op v Any) (h : At E n D ((i, v) :: ts) l (wpList P ops Q rest)) : At E n D ts l (wpList P ops Q (⟨some i, op, ty, pos, af, some (j, b)⟩ :: rest)) := L.on rfl ht hv (qo hi hev (fun _ _ => trivial) h)
end
def row (e : TypeId) (size : Nat) (v : Value) (n : Nat) (xs : List Value) : HP where
 sat w F := w.ownsRow 0 e size v n xs ∧ ∀ k, v.ownBlock = some k → F k
 loc {w w' F G} hFG hk h := by
  obtain ⟨⟨h1, h2⟩, h3⟩ := h
  refine ⟨⟨h1, ?_⟩, fun k hk' => hFG _ (h3 k hk')⟩
  rcases h2 with h2 | ⟨g, cap, cur, rfl, hb, hg, rest⟩
  · exact .inl h2
  · exact .inr ⟨g, cap, cur, rfl, hb, (hk g (h3 g Z)).trans hg, rest⟩
theorem Ent.row0 {e : TypeId} {size : Nat} {l : List HP} : Ent l (row e size (.slice none 0 0) 0 [] :: l) := fun w F s =>
 ⟨fun _ => False, F, fun _ h => h.elim, fun _ h => h, fun _ h => h.elim, ⟨World.ownsRow_nil _ _ _ _, fun k hk => by simp [Value.ownBlock] at hk⟩, s⟩
section
variable {P : Program} {E : Env} {n : Nat} {D : List Deferred} {ts : List (Nat × Value)} {l : List HP} {ops : Array Oper} {Q : Exit → Act → World → Prop} {rest : List Oper} {i : Nat} {ty : TypeId} {pos : String} {af : Array Edge} {g : Option (Nat × Bool)}
section
variable {r r' : List HP} {K : Act → World → Prop} {e t : TypeId} {w : World} {A : Option Addr} {f : FuncId}
theorem Holds.row {size : Nat} {v : Value} {m : Nat} {xs : List Value} (h : Holds E w l) (s : Sel (row e size v m xs) l r) : w.ownsRow 0 e size v m xs := by
 obtain ⟨F1, F2, h1, _, _, hp, _⟩ := (h.sel s).star
 exact hp.1
theorem j0 {w' : World} {e' : TypeId} {size size' : Nat} {v v' : Value} {m m' : Nat} {xs xs' : List Value} (h : Holds E w (SL.row e size v m xs :: r)) (hg : w.grownBy w' v.ownBlock) (ho : w'.ownsRow 0 e' size' v' m' xs')
 (hm : v'.ownBlock = v.ownBlock ∨ ∃ k, v'.ownBlock = some k ∧ w.heap.size ≤ k) : Holds E w' (SL.row e' size' v' m' xs' :: r) := by
 refine h.turn hg.os hg.tape hg.output hg.size fun F1 hp hF => ⟨fun k => v'.ownBlock = some k, fun k hk => ⟨?_, (ho.lt k hk).2⟩, ⟨ho, fun k hk => hk⟩, fun k hk hnk => hg.block k hk fun hkv => hnk (hp.2 k hkv.symm)⟩
 rcases hm with hm | ⟨j, hj, hge⟩
 · exact .inl (hp.2 k (hm ▸ hk))
 · rw [hj] at hk
   injection hk with hk
   subst hk
   exact .inr hge
def e7 (P : Program) (e : TypeId) (z : Value) (size bytes : Nat) : Prop := (P.info? e).map (fun i => (i.zero, i.size, i.bytes)) = some (some z, size, bytes)
def vl (A : Option Addr) (news : List Value) (w : World) : Prop := ∀ ad, A = some ad → ∀ j u, news[j]? = some u → w.cell? (ad.add j) = some u
theorem run_app_nothing (t tty e : TypeId) (j : TypeInfo) (size : Nat) (ht : P.underlying t = some (.slice e)) (hi : P.info? e = some j)
 (v : Value) (m : Nat) (xs : List Value) (hown : w.ownsRow 0 e size v m xs) (c : Nat) : (Builtin.append_ #[t, t] tty #[v, .slice none 0 c]).run P w = .ok v w := by
 rcases hown.2 with ⟨rfl, rfl⟩ | ⟨g, cap, cur, rfl, _, _, hnc, _⟩
 · simp [Builtin.append_, run_underlying ht, sizeOf, typeInfo, hi, Builtin.lenOf, Builtin.firstCells]
 · simp [Builtin.append_, run_underlying ht, sizeOf, typeInfo, hi, Builtin.lenOf, Builtin.firstCells, hnc, storeCells]
theorem cm {s x : Operand} {z : Value} {size bytes : Nat} {v : Value} {k : Nat} {xs : List Value} {m c : Nat} {news : List Value} (hi : Nat.blt i n = true) (ht : P.underlying t = some (.slice e)) (hel : e7 P e z size bytes) (hzs : z.cells.size = size) (hsz : 0 < size)
 (hs : ev ts s = some v) (hx : ev ts x = some (.slice A m c)) (hsel : Sel (row e size v k xs) l r) (hl : news.length = m * size) (hnil : A = none → m = 0) (hnews : ∀ w, Holds E w l → vl A news w) (h1 : ∀ u ∈ news, u.oneCell' = true)
 (hmax : k + m ≤ maxLen) (hby : (k + m) * bytes ≤ 140737488355328)
 (h : ∀ v', (v' = .slice none 0 0 ↔ v = .slice none 0 0 ∧ m = 0) → At E n D ((i, v') :: ts) (row e size v' (k + m) (xs ++ news) :: r) K) :
 At E n D ts l (fun a w => (Oper.mk (some i) (.call { callee := .builtin .append, args := #[s, x], argTypes := #[t, t] }) ty pos af g).wp P a w K Q) := fun a w f hw => by
 obtain ⟨ti, hti, e0, e1, e2⟩ := info_parts hel
 have hown := hw.row hsel
 have hsel' := hw.sel hsel
 have hsrc := hnews w hw
 have hev : ∃ v' w', (execOp a.eval (Oper.mk (some i) (.call { callee := .builtin .append, args := #[s, x], argTypes := #[t, t] }) ty pos af g)).run P w = .ok (.value v') w' ∧ w'.ownsRow 0 e size v' (k + m) (xs ++ news) ∧ w.grownBy w' v.ownBlock ∧ (v' = .slice none 0 0 ↔ v = .slice none 0 0 ∧ m = 0) ∧ (v'.ownBlock = v.ownBlock ∨ v'.ownBlock = some w.heap.size) := by
  rcases A with _ | ad
  · obtain rfl : m = 0 := hnil rfl
    obtain rfl : news = [] := List.eq_nil_of_length_eq_zero (by simpa using hl)
    have hr := run_app_nothing (P := P) (w := w) t ty e ti size ht hti v k xs hown c
    exact ⟨v, w, by simp [execOp, resolve, invoke, builtin, f.eval hs, f.eval hx, hr], by simpa using hown, World.grownBy.refl w _, by simp, .inl Z⟩
  · obtain ⟨v', w', hr, h2, h3, h4, h5⟩ := run_append_own_at (P := P) w 0 t ty e ti z size bytes ht hti e0 e1 e2 hzs hsz v k xs hown ad m c news hl (hsrc ad rfl) h1 hmax hby (Nat.zero_le _)
    exact ⟨v', w', by simp [execOp, resolve, invoke, builtin, f.eval hs, f.eval hx, hr], h2, h3, h4, h5⟩
 obtain ⟨v', w', hr, h2, h3, h4, h5⟩ := hev
 unfold Oper.wp
 rw [hr]
 exact h v' h4 _ w' (f.put i (Nat.le_of_ble_eq_true hi) v') (j0 hsel' h3 h2 (h5.imp_right fun h => ⟨_, h, Nat.le_refl _⟩))
theorem fN {b o : Nat} {tb : TypeId} {cs : Array Value} {fz : Nat × Nat} {news : List Value} [h : Has b l (.cells cs tb fz) r] (hv : ∀ j u, news[j]? = some u → cs[o + j]? = some u) : ∀ w, Holds E w l → vl (some ⟨b, o, none⟩) news w := fun w hw ad had j u hj => by
 injection had with had
 subst had
 rw [add_plain]
 exact vg hv w hw j u hj
theorem dF {m : Nat} {z : Value} {size : Nat} {ps : List (Nat × Operand)} {vs : List Value} {cs : Array Value} (hi : Nat.blt i n = true) (ht : P.underlying t = some (.slice e)) (hz : ce P e size) (hzz : fA P e z) (h0 : 0 < m * size) (hm : m * size ≤ 16777216)
 (hx : evs ts (ps.map (·.2)) = some vs) (hf : Instr.fill (fun i => some (i * size, size)) ((Array.range (m * size)).map (z.cells[· % z.cells.size]!)) ((ps.map (·.1)).zip vs) = some cs)
 (h : ∀ b, At E n D ((i, .slice (some ⟨b, 0, none⟩) m m) :: ts) (blk b e cs :: l) K) : At E n D ts l (fun a w => (Oper.mk (some i) (.buildSlice t m ps.toArray) ty pos af g).wp P a w K Q) := fun a w f hw => by
 have hp : (ps.toArray.map fun p => (p.1, a.eval p.2)).toList = (ps.map (·.1)).zip vs := by
  have := cT f.knows hx
  rw [← this]
  simp
  clear hx hf this h0 hm
  induction ps with
  | nil => rfl
  | cons p ps ih => simp; exact ih
 have hr : (execOp a.eval (Oper.mk (some i) (.buildSlice t m ps.toArray) ty pos af g)).run P w = .ok (.value (.slice (some ⟨w.heap.size, 0, none⟩) m m)) (w.alloc (.cells cs e)) := by
  simp only [execOp, Instr.buildSlice, Sem.run_bind, run_underlying ht, Result.andThen_ok, bT hz, hp]
  rw [if_neg (by omega), if_neg (by omega)]
  simp [fj hzz, hf, newRow]
 show (Oper.mk (some i) (.buildSlice t m ps.toArray) ty pos af g).wp P a w K Q
 unfold Oper.wp
 rw [hr]
 exact h _ _ _ (f.put i (Nat.le_of_ble_eq_true hi) _) (hw.alloc _)
theorem da {z : Value} {x : Operand} {v : Value} (hi : Nat.blt i n = true) (ht : P.underlying t = some (.slice e)) (hz : ce P e 1) (hzz : fA P e z) (hx : ev ts x = some v) (hv : v.oneCell' = true)
 (h : ∀ b, At E n D ((i, .slice (some ⟨b, 0, none⟩) 1 1) :: ts) (blk b e #[v] :: l) K) : At E n D ts l (fun a w => (Oper.mk (some i) (.buildSlice t 1 #[(0, x)]) ty pos af g).wp P a w K Q) :=
 dF (ps := [(0, x)]) (vs := [v]) (cs := #[v]) hi ht hz hzz (by omega) (by omega) (by simp [evs, hx]) (by
  have e1 : Array.range (1 * 1) = #[0] := rfl
  rw [e1]
  simp [Instr.fill, gT hv]) h
theorem Cg {xs : List Operand} {at_ : Array TypeId} {args : List Value} {R : Value → Prop} (hi : Nat.blt i n = true) (hb : eM P f = true) (hx : evs ts xs = some args)
 (hs : ∀ w, Holds E w l → Calls P f args.toArray w fun e w' => ∃ v, e = .returned v ∧ R v ∧ Below w.heap.size w w') (h : ∀ v, R v → At E n D ((i, v) :: ts) l K) :
 At E n D ts l (fun a w => (Oper.mk (some i) (.call { callee := .value (.func f), args := xs.toArray, argTypes := at_ }) ty pos af g).wp P a w K Q) := fun a w ft hw => by
 have := cT ft.knows hx
 have hr : (execOp a.eval (Oper.mk (some i) (.call { callee := .value (.func f), args := xs.toArray, argTypes := at_ }) ty pos af g)).run P w = .ok (.enter f args.toArray) w := by
  simp [execOp, resolve, Deferred.ofValue, Act.eval, invoke, this, de hb]
 show (Oper.mk (some i) (.call { callee := .value (.func f), args := xs.toArray, argTypes := at_ }) ty pos af g).wp P a w K Q
 unfold Oper.wp
 rw [hr]
 refine (hs w hw).mono fun e w' ⟨v, he, hR, hbel⟩ => ?_
 subst he
 exact h v hR _ w' (ft.put i (Nat.le_of_ble_eq_true hi) v) (hw.below hbel)
theorem Does.frame {G : Env → Prop} {args : Array Value} {pre : List HP} {R : Value → List HP → Prop} (h : Does P G f args pre R) (c : List HP) : Does P G f args (pre ++ c) fun v m => ∃ m', R v m' ∧ m = m' ++ c := fun E w fr hE hw => by
 rw [List.append_assoc] at hw
 refine (h E w _ hE hw).mono fun e w' ⟨v, m, he, hR, hh⟩ => ⟨v, m ++ c, he, ⟨m, hR, rfl⟩, ?_⟩
 rw [List.append_assoc]
 exact hh
theorem d6 {p : Addr} {v : Value} (hd : iG P t = some false) (hc : w.cell? p = some v) : (loadVar t p).run P w = .ok v w := by
 simp [loadVar, ij hd, hc]
theorem qP {b o m : Nat} {vs : List Value} (hd : iG P t = some true) (hz : ce P t m) (hm : vs.length = m) (hc : gY b o vs w) : (loadVar t ⟨b, o, none⟩).run P w = .ok (.agg vs.toArray) w := by
 subst hm
 have := el (P := P) vs 0 #[] (fun j v hj => by simpa using hc j v hj)
 simp [loadVar, ij hd, bT hz, loadCells, this]
theorem nR {x y : Operand} {k : IntKind} {j len : Nat} {cs : Array Value} {v : Value} (ht : P.underlying t = some (.array len e)) (hd : iG P e = some false) (hz : ce P e 1) (hx : ev ts x = some (.agg cs)) (hy : ev ts y = some (.int k (j : Int))) (hj : j < len) (hv : cs[j]? = some v) :
 Ev P ts (.index t x y) v Any := by
 intro a w _ _ _ _ _ kn _
 simp [execOp, kn.eval hx, kn.eval hy, Instr.index, asIntOf, run_underlying ht, bT hz, part, ij hd, hv]
 intro h; omega
theorem Ent.sel {p : HP} (s : Sel p l r) : Ent l (p :: r) := Ent.perm s.perm
theorem aP {p q : HP} (s : Sel p l r) (s' : Sel q r r') : Ent l (p :: q :: r') := (Ent.sel s).trans (Ent.cons (Ent.sel s'))
theorem cc {p q u : HP} {r'' : List HP} (s : Sel p l r) (s' : Sel q r r') (s'' : Sel u r' r'') : Ent l (p :: q :: u :: r'') := (Ent.sel s).trans (Ent.cons (aP s' s''))
theorem Ent.drop1 {p : HP} (s : Sel p l r) : Ent l r := (Ent.sel s).trans Ent.drop
theorem dc {x : Operand} {lo hi : Option Operand} {len cap a b z : Nat} (ht : P.underlying t = some (.slice e)) (hz : ce P e z) (hx : ev ts x = some (.slice A len cap))
 (hlo : match lo with | some o => ∃ k, ev ts o = some (.int k (a : Int)) | none => a = 0) (hhi : match hi with | some o => ∃ k, ev ts o = some (.int k (b : Int)) | none => b = len) (h1 : a ≤ b) (h2 : b ≤ cap) :
 Ev P ts (.slice t x lo hi none) (.slice (if cap = a then A else A.map (·.add (a * z))) (b - a) (cap - a)) Any := by
 intro ac w _ _ _ _ _ kn _
 have hb : ((b : Int)).toNat = b := by omega
 have ha : ((a : Int)).toNat = a := by omega
 rcases lo with _ | lo <;> rcases hi with _ | hi
 · simp only at hlo hhi
   subst hlo; subst hhi
   simp [execOp, Instr.sliceAt, Instr.slice, run_underlying ht, kn.eval hx, Instr.sliceBounds, bT hz]
 · obtain ⟨k, hk⟩ := hhi
   simp only at hlo
   subst hlo
   simp [execOp, Instr.sliceAt, Instr.slice, run_underlying ht, kn.eval hx, kn.eval hk, Instr.sliceBounds, Instr.sliceBound, asIntOf, bT hz, h2]
 · obtain ⟨k, hk⟩ := hlo
   simp only at hhi
   subst hhi
   simp [execOp, Instr.sliceAt, Instr.slice, run_underlying ht, kn.eval hx, kn.eval hk, Instr.sliceBounds, Instr.sliceBound, asIntOf, bT hz, h1]
 · obtain ⟨k, hk⟩ := hlo
   obtain ⟨k', hk'⟩ := hhi
   simp [execOp, Instr.sliceAt, Instr.slice, run_underlying ht, kn.eval hx, kn.eval hk, kn.eval hk', Instr.sliceBounds, Instr.sliceBound, asIntOf, bT hz, h1, h2]
end
end
end Go.SL

namespace Go.Proofs.YtmeegfamopaljaaGreatDoor
open Go Go.RowKit
theorem qu {k : IntKind} {a b : Int} (h : a = b) : Ending.returned (.int k a) = .returned (.int k b) := by rw [h]
def i64 (x : Int) : Prop := -9223372036854775808 ≤ x ∧ x ≤ 9223372036854775807
def Same (B : Nat) (w w' : World) : Prop := ∀ k, k < B → w'.heap[k]? = w.heap[k]?
theorem Same.cell {B : Nat} {w w' : World} (h : Same B w w') {b o : Nat} (hb : b < B) : w'.cell? ⟨b, o, none⟩ = w.cell? ⟨b, o, none⟩ := World.cell?_of_block (w := w) (h b hb)
theorem Same.refl (B : Nat) (w : World) : Same B w w := fun _ _ => rfl
theorem Same.trans {B : Nat} {a b c : World} (h : Same B a b) (k : Same B b c) : Same B a c := fun i hi => (k i hi).trans (h i hi)
theorem Same.mono {B B' : Nat} {w w' : World} (h : Same B w w') (hB : B' ≤ B) : Same B' w w' := fun k hk => h k (Nat.lt_of_lt_of_le hk hB)
theorem _root_.Go.RowKit.Below.to_same {B : Nat} {w w' : World} (h : Below B w w') : Same B w w' := h.block
structure IntsAt (w : World) (B : Nat) (A : Option Addr) (c : Nat) (l : List Int) : Prop where
 rng : ∀ x ∈ l, i64 x
 len : l.length ≤ c
 cap : c ≤ 9223372036854775807
 cells : 0 < l.length → ∃ b off, A = some ⟨b, off, none⟩ ∧ b < B ∧ ∀ i x, l[i]? = some x → w.cell? ⟨b, off + i, none⟩ = some (.int .i64 x)
structure NodeAt (w : World) (B b off : Nat) (n : FK.Node) : Prop where
 c0 : w.cell? ⟨b, off, none⟩ = some (.int .i64 n.CJ)
 c1 : w.cell? ⟨b, off + 1, none⟩ = some (.int .i64 n.close)
 c2 : w.cell? ⟨b, off + 2, none⟩ = some (.int .i64 n.beat)
 c3 : w.cell? ⟨b, off + 3, none⟩ = some (.int .i64 n.base)
 c4 : w.cell? ⟨b, off + 4, none⟩ = some (.int .i64 n.cap)
 c5 : w.cell? ⟨b, off + 5, none⟩ = some (.int .i64 n.CK)
 c6 : ∃ A c, w.cell? ⟨b, off + 6, none⟩ = some (.slice A n.after.length c) ∧ IntsAt w B A c n.after
 rng : i64 n.CJ ∧ i64 n.close ∧ i64 n.beat ∧ i64 n.base ∧ i64 n.cap ∧ i64 n.CK
structure NodesAt (w : World) (B : Nat) (A : Option Addr) (c : Nat) (l : List FK.Node) : Prop where
 len : l.length ≤ c
 cap : c ≤ 9223372036854775807
 cells : 0 < l.length → ∃ b off, A = some ⟨b, off, none⟩ ∧ b < B ∧ ∀ i n, l[i]? = some n → NodeAt w B b (off + i * 7) n
section
variable {w w' : World} {B B' : Nat} {A : Option Addr} {c : Nat}
theorem IntsAt.keep {l : List Int} (h : IntsAt w B A c l) (s : Same B w w') : IntsAt w' B A c l := by
 obtain ⟨h0, h1, h2, h3⟩ := h
 refine ⟨h0, h1, h2, fun hl => ?_⟩
 obtain ⟨b, off, rfl, hb, hc⟩ := h3 hl
 exact ⟨b, off, rfl, hb, fun i x hx => by rw [s.cell hb]; exact hc i x hx⟩
theorem IntsAt.more {l : List Int} (h : IntsAt w B A c l) (hB : B ≤ B') : IntsAt w B' A c l := by
 obtain ⟨h0, h1, h2, h3⟩ := h
 refine ⟨h0, h1, h2, fun hl => ?_⟩
 obtain ⟨b, off, rfl, hb, hc⟩ := h3 hl
 exact ⟨b, off, rfl, by omega, hc⟩
theorem NodeAt.keep {b off : Nat} {n : FK.Node} (h : NodeAt w B b off n) (s : Same B w w') (hb : b < B) : NodeAt w' B b off n := by
 obtain ⟨c0, c1, c2, c3, c4, c5, ⟨A, c, hv, hi⟩, hr⟩ := h
 exact ⟨by rw [s.cell hb]; exact c0, by rw [s.cell hb]; exact c1, by rw [s.cell hb]; exact c2, by rw [s.cell hb]; exact c3, by rw [s.cell hb]; exact c4, by rw [s.cell hb]; exact c5, ⟨A, c, by rw [s.cell hb]; exact hv, hi.keep s⟩, hr⟩
theorem NodeAt.more {b off : Nat} {n : FK.Node} (h : NodeAt w B b off n) (hB : B ≤ B') : NodeAt w B' b off n := by
 obtain ⟨c0, c1, c2, c3, c4, c5, ⟨A, c, hv, hi⟩, hr⟩ := h
 exact ⟨c0, c1, c2, c3, c4, c5, ⟨A, c, hv, hi.more hB⟩, hr⟩
theorem NodesAt.keep {l : List FK.Node} (h : NodesAt w B A c l) (s : Same B w w') : NodesAt w' B A c l := by
 obtain ⟨h1, h2, h3⟩ := h
 refine ⟨h1, h2, fun hl => ?_⟩
 obtain ⟨b, off, rfl, hb, hc⟩ := h3 hl
 exact ⟨b, off, rfl, hb, fun i x hx => (hc i x hx).keep s hb⟩
theorem NodesAt.more {l : List FK.Node} (h : NodesAt w B A c l) (hB : B ≤ B') : NodesAt w B' A c l := by
 obtain ⟨h1, h2, h3⟩ := h
 refine ⟨h1, h2, fun hl => ?_⟩
 obtain ⟨b, off, rfl, hb, hc⟩ := h3 hl
 exact ⟨b, off, rfl, by omega, fun i x hx => (hc i x hx).more hB⟩
end
open Go Go.RowKit
def bR (l : List UInt8) : List Value := l.map fun b => .int .u8 b.toNat
theorem iI (l : List UInt8) : (bR l).length = l.length := by simp [bR]
theorem ga (a b : List UInt8) : bR (a ++ b) = bR a ++ bR b := by simp [bR]
def iT (w : World) (base : Nat) (v : Value) (l : List UInt8) : Prop := w.ownsRow base 5 1 v l.length (bR l)
def Moved (B : Nat) (v v' : Value) : Prop := v'.ownBlock = v.ownBlock ∨ ∃ k, v'.ownBlock = some k ∧ B ≤ k
theorem Moved.refl (B : Nat) (v : Value) : Moved B v v := .inl rfl
theorem Moved.trans {B : Nat} {a b c : Value} (h : Moved B a b) (k : Moved B b c) : Moved B a c := by
 rcases k with k | k
 · rcases h with h | ⟨x, h, hx⟩
   · exact .inl (k.trans h)
   · exact .inr ⟨x, k.trans h, hx⟩
 · exact .inr k
theorem Moved.mono {B B' : Nat} {a b : Value} (h : Moved B a b) (hB : B' ≤ B) : Moved B' a b := by
 rcases h with h | ⟨x, h, hx⟩
 · exact .inl h
 · exact .inr ⟨x, h, by omega⟩
theorem uK {w w1 w2 : World} {v v1 : Value} (h : w.grownBy w1 v.ownBlock) (m : Moved w.heap.size v v1) (k : w1.grownBy w2 v1.ownBlock) : w.grownBy w2 v.ownBlock := by
 refine ⟨k.os.trans h.os, k.tape.trans h.tape, k.output.trans h.output, Nat.le_trans h.size k.size, fun i hi hne => ?_⟩
 rw [k.block i (Nat.lt_of_lt_of_le hi h.size) ?_, h.block i hi hne]
 rcases m with m | ⟨x, hm, hx⟩
 · rw [m]; exact hne
 · rw [hm]; intro e; injection e with e; omega
theorem ia : (Tryz.prog.info? 5).map (fun i => (i.zero, i.size, i.bytes)) = some (some (.int .u8 0), 1, 1) := by kernel_rfl
theorem m1 : ∀ (k n : Nat), n < 128 ^ k → 0 < k → (FK.bA n).length ≤ k := by
 intro k
 induction k with
 | zero => intro n _ h; omega
 | succ k ih =>
  intro n hn _
  by_cases h : n < 128
  · rw [FK.gI h]; simp
  · rw [FK.jg h]
    rcases Nat.eq_zero_or_pos k with h0 | h0
    · subst h0; simp at hn; omega
    · have := ih (n / 128) (by rw [Nat.div_lt_iff_lt_mul (by omega)]; rwa [Nat.pow_succ] at hn) h0
      simp; omega
theorem eH {n : Nat} (h : n < 18446744073709551616) : (FK.bA n).length ≤ 10 := m1 10 n (Nat.lt_of_lt_of_le h (by decide)) (by omega)
def v6 (w : World) (base : Nat) (v : Value) (l : List UInt8) (e : Ending) (w' : World) : Prop :=
 ∃ v', e = .returned v' ∧ iT w' base v' l ∧ w.grownBy w' v.ownBlock ∧ Moved w.heap.size v v'
theorem rJ (m : Nat) : (m : Int) % 256 = ((UInt8.ofNat m).toNat : Int) := by
 simp
theorem Cd (m : Nat) : bits BinOp.or IntKind.u8 ((m : Int) % 256) 128 = ((UInt8.ofNat (m % 128 + 128)).toNat : Int) := by
 have e1 : (m : Int) % 256 = ((m % 256 : Nat) : Int) := by omega
 rw [e1]
 have := u8_or_nat (m % 256) 128 (by omega) (by omega)
 rw [show ((128 : Int)) = ((128 : Nat) : Int) from rfl, this]
 have key : ∀ x : Fin 256, x.val ||| 128 = x.val % 128 + 128 := by decide +kernel
 have := key ⟨m % 256, by omega⟩
 simp only at this
 rw [this]
 have h2 : m % 256 % 128 = m % 128 := by omega
 rw [h2]
 simp
 omega
theorem pY {w wr w2 : World} {base : Nat} {v u0 v2 : Value} {l1 : List UInt8} {x : UInt8} {y : Int} {o : Obj} (hg : w.grownBy wr v.ownBlock) (hm : Moved w.heap.size v u0)
 (hown2 : w2.ownsRow base 5 1 v2 (l1.length + 1) (bR l1 ++ [.int .u8 y])) (hy : y = x.toNat) (hg2 : (wr.alloc o).grownBy w2 u0.ownBlock) (hat2 : v2.ownBlock = u0.ownBlock ∨ v2.ownBlock = some (wr.heap.size + 1)) :
 iT w2 base v2 (l1 ++ [x]) ∧ w.grownBy w2 v.ownBlock ∧ Moved w.heap.size v v2 := by
 subst hy
 have hs := hg.size
 refine ⟨?_, uK hg hm ((World.grownBy_alloc wr o u0.ownBlock).trans hg2), hm.trans ?_⟩
 · unfold iT
   rw [ga, List.length_append]
   exact hown2
 · rcases hat2 with h | h
   · exact .inl h
   · exact .inr ⟨_, h, by omega⟩
set_option maxRecDepth 10000 in
set_option maxHeartbeats 1000000 in
theorem lM (w : World) (base : Nat) (v : Value) (l : List UInt8) (n : Nat) (hn : n < 18446744073709551616) (hown : iT w base v l) (hl : l.length ≤ 1099511627776) (hbase : base ≤ w.heap.size) :
 Calls Tryz.prog 142 #[v, .int .u64 n] w (v6 w base v (l ++ FK.bA n)) := by
 obtain ⟨i0, hi, hz0, hz1, hz2⟩ := info_parts ia
 have HL := Lib.hid (show (l ++ FK.bA n).length ≤ 1099511627786 by have := eH hn; simp; omega)
 have HOWN := Lib.hid hown
 have HI := Lib.hid hi
 have HZ0 := Lib.hid hz0
 have HZ1 := Lib.hid hz1
 have HZ2 := Lib.hid hz2
 clear hown hi hz0 hz1 hz2
 go_enter Tryz.func142, Tryz.ntmps142
 go_wp2
 go_loopw [0, 1] (fun t s wr => ∃ (l1 : List UInt8) (m : Nat), s = .int .u64 m ∧ m < 18446744073709551616 ∧ l1 ++ FK.bA m = l ++ FK.bA n ∧ iT wr base t l1 ∧ w.grownBy wr v.ownBlock ∧ Moved w.heap.size v t) (fun _ s _ => (intOf s).toNat)
 case atStart => exact ⟨l, n, rfl, hn, rfl, HOWN.out, World.grownBy.refl _ _, .refl _ _⟩
 case round =>
  obtain ⟨l1, m, rfl, hm, he, hown, hg, hmv⟩ := hrel
  have HE := Lib.hid he
  have HG := Lib.hid hg
  have HM := Lib.hid hmv
  have hsz := hg.size
  have hlen : l1.length ≤ 1099511627786 := by
   have := congrArg List.length he
   have h2 := HL.out
   simp at this h2; omega
  clear he hg hmv
  by_cases hbig : 127 < m
  · have hor := Cd m
    have HN := Lib.hid (FK.jg (n := m) (by omega))
    obtain ⟨x, hx⟩ : ∃ x : UInt8, x = UInt8.ofNat (m % 128 + 128) := ⟨_, rfl⟩
    rw [← hx] at hor HN
    clear hx
    go_wp2_with (at_builtin; go_must (refine wpList_append_own_at _ rfl (.tmp 9) (.tmp 13) 47 rfl base 5 i0 (.int .u8 0) 1 1 Tryz.underlying47 HI.out HZ0.out HZ1.out HZ2.out rfl (by decide) u0 l1.length (bR l1) rfl (World.ownsRow.alloc hown _) ⟨wr.heap.size, 0, none⟩ 1 1 [.int .u8 x.toNat] rfl rfl (cell_one_new _ _ _) (by simp [Value.oneCell']) (by unfold maxLen; omega) (by omega) (by simp; omega) ?_); intro v2 w2 hown2 hg2 _ hat2)
    obtain ⟨h1, h2, h3⟩ := pY HG.out HM.out hown2 rfl hg2 (by simpa using hat2)
    have H1 := Lib.hid h1
    have H2 := Lib.hid h2
    have H3 := Lib.hid h3
    clear h1 h2 h3 hown2 hg2 hat2 hown
    go_roundw
    case rel => exact ⟨l1 ++ [x], m / 128, by go_num, by omega, by rw [← HE.out, HN.out]; simp, H1.out, H2.out, H3.out⟩
    case measure => simp [intOf]; omega
  · have hlow := rJ m
    have HN := Lib.hid (FK.gI (n := m) (by omega))
    obtain ⟨x, hx⟩ : ∃ x : UInt8, x = UInt8.ofNat m := ⟨_, rfl⟩
    rw [← hx] at hlow HN
    have hy : (m : Int) = x.toNat := by omega
    have HY := Lib.hid hy
    clear hx hlow hy
    go_wp2_with (at_builtin; go_must (refine wpList_append_own_at _ rfl (.tmp 15) (.tmp 18) 47 rfl base 5 i0 (.int .u8 0) 1 1 Tryz.underlying47 HI.out HZ0.out HZ1.out HZ2.out rfl (by decide) u0 l1.length (bR l1) rfl (World.ownsRow.alloc hown _) ⟨wr.heap.size, 0, none⟩ 1 1 [.int .u8 (m : Int)] rfl rfl (cell_one_new _ _ _) (by simp [Value.oneCell']) (by unfold maxLen; omega) (by omega) (by simp; omega) ?_); intro v2 w2 hown2 hg2 _ hat2)
    obtain ⟨h1, h2, h3⟩ := pY HG.out HM.out hown2 HY.out hg2 (by simpa using hat2)
    have H1 := Lib.hid h1
    have H2 := Lib.hid h2
    have H3 := Lib.hid h3
    clear h1 h2 h3 hown2 hg2 hat2 hown
    go_wp2
    go_ret
    exact ⟨v2, rfl, by rw [← HE.out, HN.out]; exact H1.out, H2.out, H3.out⟩
end Go.Proofs.YtmeegfamopaljaaGreatDoor

set_option maxHeartbeats 1000000
namespace Go.Proofs.YtmeegfamopaljaaGreatDoor
open Go Go.RowKit
def Tab (w : World) : Prop := TabAt 2 Lib.deBruijn64tab w
theorem Tab.keep {B : Nat} {w w' : World} (h : Tab w) (s : Same B w w') (hB : 2 < B) : Tab w' := fun j hj => by rw [s.cell hB]; exact h j hj
theorem wl (x k idx : Nat) (w : World) (hx0 : ((x : Int) == 0) = false)
 (key : IntKind.u64.wrap (bits BinOp.and IntKind.u64 (x : Int) (IntKind.u64.wrap (-(x : Int))) * 285870213051353865) / 288230376151711744 = (idx : Int))
 (hi : idx < 64) (hk : k < 64) (hcell : w.cell? ⟨2, idx, none⟩ = some (.int .u8 k)) :
 Calls Tryz.prog 196 #[.int .u64 x] w fun e w' => e = .returned (.int .i64 k) ∧ w = w' := by
 go_enter Tryz.func196, Tryz.ntmps196
 go_wp2_with (simp only [key])
 go_ret
 exact ⟨rfl, rfl⟩
theorem oe (x : Nat) (hx : x < 18446744073709551616) (hx0 : x ≠ 0) (w : World) (hT : Tab w) :
 Calls Tryz.prog 196 #[.int .u64 x] w fun e w' => e = .returned (.int .i64 (Lib.ctz 64 x)) ∧ w = w' := by
 obtain ⟨hlow, hk⟩ := Lib.lowest_bit 64 x hx0 hx
 obtain ⟨hi, htab⟩ := Lib.deBruijn64_at _ hk
 have hcell := hT _ hi
 rw [htab] at hcell
 exact wl x _ _ w (by simp; omega) (tz64_key x _ hx hx0 hlow) hi hk hcell
theorem jL (x : Nat) (hx : x < 18446744073709551616) (hx0 : x ≠ 0) (w : World) (hT : Tab w) :
 Calls Tryz.prog 141 #[.int .u64 x] w fun e w' => e = .returned (.int .i64 (Lib.ctz 64 x)) ∧ w = w' := by
 have H := Lib.hid (oe x hx hx0)
 clear hx
 go_enter Tryz.func141, Tryz.ntmps141
 go_wp2_with (go_at_call 196; refine (H.out _ hT).mono ?_; rintro e w' ⟨rfl, rfl⟩)
 go_ret
 exact ⟨rfl, rfl⟩
theorem j8 (x : Nat) (hx : x < 18446744073709551616) (hx0 : x ≠ 0) : x.testBit (Lib.ctz 64 x) = true ∧ (∀ j, j < Lib.ctz 64 x → x.testBit j = false) ∧ Lib.ctz 64 x < 64 := by
 unfold Lib.ctz
 rw [if_neg hx0]
 obtain ⟨m, hm, hk⟩ := Lib.ctzFrom_spec 64 x (by omega) (by simpa using hx)
 generalize Lib.ctzFrom 64 x = t at hm hk ⊢
 refine ⟨?_, ?_, hk⟩
 · rw [hm, Nat.mul_comm, Nat.testBit_mul_two_pow, Nat.sub_self, Nat.testBit_zero]; simp
 · intro j hj
   rw [hm, Nat.mul_comm, Nat.testBit_mul_two_pow]; simp; omega
end Go.Proofs.YtmeegfamopaljaaGreatDoor
