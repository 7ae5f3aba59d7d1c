/- A small logic of what memory a walk holds: facts on blocks that stand apart from one another; what the slots of a frame hold; and one judgement, 'At', over both. -/
import Derived.WalkKit
import Derived.WalkLawsBesides
import Derived.WalkSpells
import Derived.WalkSmall
import Derived.Laws.OwnMore
import Derived.Maps.AppendAt
import Derived.Orders
import Derived.ScopeJumps
namespace Go.SL
open Go Go.RowKit
structure Env where
 os : Os
 tape : Nat → Question → Nat
 output : Array (Nat × ByteArray)
 fixed : List (Nat × Obj)
def Env.free (E : Env) (w : World) (k : Nat) : Prop := k < w.heap.size ∧ ∀ p ∈ E.fixed, p.1 ≠ k
structure HP where
 sat : World → (Nat → Prop) → Prop
 loc : ∀ {w w' : World} {F G : Nat → Prop}, (∀ k, F k → G k) → (∀ k, F k → w'.heap[k]? = w.heap[k]?) → sat w F → sat w' G
def Star (w : World) : List HP → (Nat → Prop) → Prop
 | [], _ => True
 | p :: l, F => ∃ F1 F2 : Nat → Prop, (∀ k, F1 k → F k) ∧ (∀ k, F2 k → F k) ∧ (∀ k, F1 k → F2 k → False) ∧ p.sat w F1 ∧ Star w l F2
theorem Star.loc {w w' : World} {l : List HP} : ∀ {F G : Nat → Prop}, (∀ k, F k → G k) → (∀ k, F k → w'.heap[k]? = w.heap[k]?) → Star w l F → Star w' l G := by
 induction l with
 | nil => exact fun _ _ _ => trivial
 | cons p l ih =>
  intro F G hFG hk ⟨F1, F2, h1, h2, hd, hp, hl⟩
  exact ⟨F1, F2, fun k h => hFG k (h1 k h), fun k h => hFG k (h2 k h), hd, p.loc (fun _ h => h) (fun k h => hk k (h1 k h)) hp, ih (fun _ h => h) (fun k h => hk k (h2 k h)) hl⟩
theorem Star.mono {w : World} {l : List HP} {F G : Nat → Prop} (h : ∀ k, F k → G k) (s : Star w l F) : Star w l G := s.loc h fun _ _ => rfl
theorem Star.swap {w : World} {p q : HP} {l : List HP} {F : Nat → Prop} (h : Star w (p :: q :: l) F) : Star w (q :: p :: l) F := by
 obtain ⟨F1, F2, h1, h2, hd, hp, F3, F4, h3, h4, hd', hq, hl⟩ := h
 refine ⟨F3, fun k => F1 k ∨ F4 k, fun k h => h2 k (h3 k h), fun k h => h.elim (h1 k) (fun h => h2 k (h4 k h)), ?_, hq, F1, F4, fun k h => .inl h, fun k h => .inr h, fun k a b => hd k a (h4 k b), hp, hl⟩
 intro k a b
 rcases b with b | b
 · exact hd k b (h3 k a)
 · exact hd' k a b
theorem Star.perm {w : World} {l m : List HP} (h : l.Perm m) : ∀ {F : Nat → Prop}, Star w l F → Star w m F := by
 induction h with
 | nil => exact fun h => h
 | cons x _ ih => exact fun ⟨F1, F2, h1, h2, hd, hp, hl⟩ => ⟨F1, F2, h1, h2, hd, hp, ih hl⟩
 | swap x y l => exact fun h => h.swap
 | trans _ _ ih1 ih2 => exact fun h => ih2 (ih1 h)
theorem Star.append {w : World} : ∀ {l m : List HP} {F : Nat → Prop}, Star w (l ++ m) F → ∃ F1 F2 : Nat → Prop, (∀ k, F1 k → F k) ∧ (∀ k, F2 k → F k) ∧ (∀ k, F1 k → F2 k → False) ∧ Star w l F1 ∧ Star w m F2
 | [], m, F, h => ⟨fun _ => False, F, fun _ h => h.elim, fun _ h => h, fun _ h => h.elim, trivial, h⟩
 | p :: l, m, F, h => by
  obtain ⟨F1, F2, h1, h2, hd, hp, hl⟩ := h
  obtain ⟨G1, G2, g1, g2, gd, gl, gm⟩ := Star.append (l := l) (m := m) hl
  refine ⟨fun k => F1 k ∨ G1 k, G2, fun k h => h.elim (h1 k) (fun h => h2 k (g1 k h)), fun k h => h2 k (g2 k h), ?_, ⟨F1, G1, fun k h => .inl h, fun k h => .inr h, fun k a b => hd k a (g1 k b), hp, gl⟩, gm⟩
  intro k a b
  rcases a with a | a
  · exact hd k a (g2 k b)
  · exact gd k a b
theorem gI {w : World} {m : List HP} : ∀ {l : List HP} {F F1 F2 : Nat → Prop}, (∀ k, F1 k → F k) → (∀ k, F2 k → F k) → (∀ k, F1 k → F2 k → False) → Star w l F1 → Star w m F2 → Star w (l ++ m) F
 | [], F, F1, F2, _, h2, _, _, hm => hm.mono h2
 | p :: l, F, F1, F2, h1, h2, hd, ⟨G1, G2, g1, g2, gd, hp, hl⟩, hm => by
  refine ⟨G1, fun k => G2 k ∨ F2 k, fun k h => h1 k (g1 k h), fun k h => h.elim (fun h => h1 k (g2 k h)) (h2 k), ?_, hp, gI (fun k h => .inl h) (fun k h => .inr h) (fun k a b => hd k (g2 k a) b) hl hm⟩
  intro k a b
  rcases b with b | b
  · exact gd k a b
  · exact hd k (g1 k a) b
inductive Sel (p : HP) : List HP → List HP → Prop where
 | head {l : List HP} : Sel p (p :: l) l
 | tail {q : HP} {l r : List HP} : Sel p l r → Sel p (q :: l) (q :: r)
theorem Sel.perm {p : HP} {l r : List HP} (h : Sel p l r) : l.Perm (p :: r) := by
 induction h with
 | head => exact List.Perm.refl _
 | tail _ ih => exact (List.Perm.cons _ ih).trans (List.Perm.swap _ _ _)
structure Env.is (E : Env) (w : World) : Prop where
 os : w.os = E.os
 tape : w.tape = E.tape
 output : w.output = E.output
 fixed : ∀ p ∈ E.fixed, w.heap[p.1]? = some p.2
structure Holds (E : Env) (w : World) (l : List HP) : Prop where
 is : E.is w
 star : Star w l (E.free w)
theorem Holds.perm {E : Env} {w : World} {l m : List HP} (h : Holds E w l) (p : l.Perm m) : Holds E w m := ⟨h.is, h.star.perm p⟩
def ob (b : Nat) (o : Obj) : HP where
 sat w F := F b ∧ w.heap[b]? = some o
 loc hFG hk h := ⟨hFG _ h.1, (hk _ h.1).trans h.2⟩
abbrev blk (b : Nat) (t : TypeId) (cs : Array Value) : HP := ob b (.cells cs t)
def old (E : Env) (w0 : World) : HP where
 sat w F := ∀ k, E.free w0 k → F k ∧ w.heap[k]? = w0.heap[k]?
 loc hFG hk h := fun k hlt => ⟨hFG _ (h k hlt).1, (hk _ (h k hlt).1).trans (h k hlt).2⟩
namespace HP
def ex {α : Sort _} (f : α → HP) : HP where
 sat w F := ∃ x, (f x).sat w F
 loc hFG hk h := let ⟨x, h⟩ := h; ⟨x, (f x).loc hFG hk h⟩
def pure (p : Prop) : HP where
 sat _ _ := p
 loc _ _ h := h
def all (l : List HP) : HP where
 sat w F := Star w l F
 loc hFG hk h := h.loc hFG hk
end HP
def Ent (l m : List HP) : Prop := ∀ w F, Star w l F → Star w m F
theorem Ent.refl (l : List HP) : Ent l l := fun _ _ h => h
theorem Ent.trans {a b c : List HP} (h : Ent a b) (k : Ent b c) : Ent a c := fun w F s => k w F (h w F s)
theorem Ent.perm {a b : List HP} (h : a.Perm b) : Ent a b := fun _ _ s => s.perm h
theorem Ent.cons {p : HP} {a b : List HP} (h : Ent a b) : Ent (p :: a) (p :: b) := fun w _ ⟨F1, F2, h1, h2, hd, hp, hl⟩ => ⟨F1, F2, h1, h2, hd, hp, h w F2 hl⟩
theorem Ent.append {a b : List HP} (h : Ent a b) (c : List HP) : Ent (a ++ c) (b ++ c) := fun w F s => by
 obtain ⟨F1, F2, h1, h2, hd, ha, hc⟩ := s.append
 exact gI h1 h2 hd (h w F1 ha) hc
theorem Ent.drop {p : HP} {a : List HP} : Ent (p :: a) a := fun _ _ ⟨_, _, _, h2, _, _, hl⟩ => hl.mono h2
theorem Ent.ex {α : Sort _} {f : α → HP} (x : α) {a : List HP} : Ent (f x :: a) (HP.ex f :: a) := fun _ _ ⟨F1, F2, h1, h2, hd, hp, hl⟩ => ⟨F1, F2, h1, h2, hd, ⟨x, hp⟩, hl⟩
theorem Ent.pure {p : Prop} (hp : p) {a : List HP} : Ent a (HP.pure p :: a) := fun _ F s => ⟨fun _ => False, F, fun _ h => h.elim, fun _ h => h, fun _ h => h.elim, hp, s⟩
theorem Ent.all {m a : List HP} : Ent (m ++ a) (HP.all m :: a) := fun _ _ s => by
 obtain ⟨F1, F2, h1, h2, hd, ha, hc⟩ := s.append
 exact ⟨F1, F2, h1, h2, hd, ha, hc⟩
theorem Ent.unall {m a : List HP} : Ent (HP.all m :: a) (m ++ a) := fun _ _ ⟨_, _, h1, h2, hd, hp, hl⟩ => gI h1 h2 hd hp hl
theorem Holds.ent {E : Env} {w : World} {l m : List HP} (h : Holds E w l) (e : Ent l m) : Holds E w m := ⟨h.is, e _ _ h.star⟩
theorem Holds.sel {E : Env} {w : World} {l r : List HP} {p : HP} (h : Holds E w l) (s : Sel p l r) : Holds E w (p :: r) := h.perm s.perm
theorem Holds.ob {E : Env} {w : World} {l r : List HP} {b : Nat} {o : Obj} (h : Holds E w l) (s : Sel (ob b o) l r) : w.heap[b]? = some o ∧ b < w.heap.size := by
 obtain ⟨F1, F2, h1, _, _, hp, _⟩ := (h.sel s).star
 exact ⟨hp.2, (h1 _ hp.1).1⟩
theorem Env.is.set {E : Env} {w w' : World} (h : E.is w) (hos : w'.os = w.os) (ht : w'.tape = w.tape) (ho : w'.output = w.output) (hk : ∀ p ∈ E.fixed, w'.heap[p.1]? = w.heap[p.1]?) : E.is w' :=
 ⟨hos.trans h.os, ht.trans h.tape, ho.trans h.output, fun p hp => (hk p hp).trans (h.fixed p hp)⟩
theorem Env.is.lt {E : Env} {w : World} (h : E.is w) {p : Nat × Obj} (hp : p ∈ E.fixed) : p.1 < w.heap.size := (Array.getElem?_eq_some_iff.1 (h.fixed p hp)).1
theorem Holds.turn {E : Env} {w w' : World} {p q : HP} {r : List HP} (h : Holds E w (p :: r)) (hos : w'.os = w.os) (ht : w'.tape = w.tape) (ho : w'.output = w.output) (hz : w.heap.size ≤ w'.heap.size)
 (step : ∀ F1 : Nat → Prop, p.sat w F1 → (∀ k, F1 k → E.free w k) → ∃ G1 : Nat → Prop, (∀ k, G1 k → (F1 k ∨ w.heap.size ≤ k) ∧ k < w'.heap.size) ∧ q.sat w' G1 ∧ ∀ k, k < w.heap.size → ¬ F1 k → w'.heap[k]? = w.heap[k]?) : Holds E w' (q :: r) := by
 obtain ⟨F1, F2, h1, h2, hd, hp, hl⟩ := h.star
 obtain ⟨G1, hG, hq, hk⟩ := step F1 hp h1
 have hnot : ∀ p ∈ E.fixed, ¬ F1 p.1 := fun p hp hf => (h1 _ hf).2 p hp rfl
 refine ⟨h.is.set hos ht ho fun p hp => hk _ (h.is.lt hp) (hnot p hp), G1, F2, fun k hk' => ⟨(hG k hk').2, fun p hp e => ?_⟩, fun k hk' => ⟨Nat.lt_of_lt_of_le (h2 k hk').1 hz, (h2 k hk').2⟩, fun k hk1 hk2 => ?_, hq, ?_⟩
 · rcases (hG k hk').1 with h3 | h3
   · exact (h1 k h3).2 p hp e
   · have := h.is.lt hp
     omega
 · rcases (hG k hk1).1 with h3 | h3
   · exact hd k h3 hk2
   · have := (h2 k hk2).1
     omega
 · exact hl.loc (fun _ h => h) fun k hk2 => hk k (h2 k hk2).1 fun hf => hd k hf hk2
theorem Holds.set {E : Env} {w w' : World} {r : List HP} {b : Nat} {o o' : Obj} (h : Holds E w (SL.ob b o :: r)) (hos : w'.os = w.os) (ht : w'.tape = w.tape) (ho : w'.output = w.output) (hz : w'.heap.size = w.heap.size)
 (hb : w'.heap[b]? = some o') (hk : ∀ k, k ≠ b → w'.heap[k]? = w.heap[k]?) : Holds E w' (SL.ob b o' :: r) :=
 h.turn hos ht ho (Nat.le_of_eq hz.symm) fun F1 hp hF => ⟨F1, fun k hk => ⟨.inl hk, by rw [hz]; exact (hF k hk).1⟩, ⟨hp.1, hb⟩, fun k _ hk' => hk k (by rintro rfl; exact hk' hp.1)⟩
theorem Holds.alloc {E : Env} {w : World} {l : List HP} (h : Holds E w l) (o : Obj) : Holds E (w.alloc o) (SL.ob w.heap.size o :: l) := by
 have h' : Holds E w (HP.pure True :: l) := ⟨h.is, fun _ => False, E.free w, fun _ h => h.elim, fun _ h => h, fun _ h => h.elim, trivial, h.star⟩
 refine h'.turn rfl rfl rfl (by simp) fun F1 _ _ => ⟨fun k => k = w.heap.size, fun k hk => ⟨.inr (by omega), by simp; omega⟩, ⟨rfl, ?_⟩, fun k hk _ => Below.heap_alloc _ _ _ hk⟩
 show (w.heap.push o)[w.heap.size]? = some o
 simp
theorem Holds.drawn {E : Env} {w : World} {l : List HP} (h : Holds E w l) (n : Nat) : Holds E { w with drawn := n } l := ⟨⟨h.is.os, h.is.tape, h.is.output, h.is.fixed⟩, Star.loc (w := w) (fun _ h => h) (fun _ _ => rfl) h.star⟩
theorem Env.is.below {E : Env} {w w' : World} (h : E.is w) (hb : Below w.heap.size w w') : E.is w' := h.set hb.os hb.tape hb.output fun _ hp => hb.block _ (h.lt hp)
theorem Holds.below {E : Env} {w w' : World} {l : List HP} (h : Holds E w l) (hb : Below w.heap.size w w') : Holds E w' l :=
 ⟨h.is.below hb, h.star.loc (fun _ hk => ⟨Nat.lt_of_lt_of_le hk.1 hb.size, hk.2⟩) fun k hk => hb.block k hk.1⟩
theorem Holds.start {E : Env} {w : World} (h : E.is w) : Holds E w [old E w] :=
 ⟨h, E.free w, fun _ => False, fun _ h => h, fun _ h => h.elim, fun _ _ h => h.elim, fun _ hk => ⟨hk, rfl⟩, trivial⟩
theorem Holds.old {E : Env} {w w0 : World} {l r : List HP} (h : Holds E w l) (s : Sel (SL.old E w0) l r) (h0 : E.is w0) : Below w0.heap.size w0 w := by
 obtain ⟨F1, F2, h1, _, _, hs, _⟩ := (h.sel s).star
 have hk : ∀ k, k < w0.heap.size → w.heap[k]? = w0.heap[k]? := fun k hk => by
  by_cases hf : ∃ p ∈ E.fixed, p.1 = k
  · obtain ⟨p, hp, rfl⟩ := hf
    rw [h.is.fixed p hp, h0.fixed p hp]
  · exact (hs k ⟨hk, fun p hp e => hf ⟨p, hp, e⟩⟩).2
 refine ⟨h.is.os.trans h0.os.symm, h.is.tape.trans h0.tape.symm, h.is.output.trans h0.output.symm, ?_, hk⟩
 rcases Nat.eq_zero_or_pos w0.heap.size with h3 | h3
 · omega
 · have h4 := hk (w0.heap.size - 1) (by omega)
   have h5 : w0.heap[w0.heap.size - 1]? = some (w0.heap[w0.heap.size - 1]'(by omega)) := Array.getElem?_eq_getElem _
   rw [h5] at h4
   have := (Array.getElem?_eq_some_iff.1 h4).1
   omega
theorem Holds.later {E : Env} {w w0 : World} {l m : List HP} (h0 : Holds E w0 l) (h : Holds E w (m ++ [SL.old E w0])) : Holds E w (m ++ l) := by
 refine ⟨h.is, ?_⟩
 obtain ⟨F1, F2, h1, h2, hd, hm, G1, G2, g1, g2, gd, hs, _⟩ := h.star.append
 refine gI (F2 := E.free w0) h1 (fun k hk => h2 _ (g1 _ (hs k hk).1)) (fun k a b => hd k a (g1 _ (hs k b).1)) hm ?_
 exact h0.star.loc (fun _ h => h) fun k hk => (hs k hk).2
def look : Nat → List (Nat × Value) → Option Value
 | _, [] => none
 | i, (j, v) :: l => bif Nat.beq i j then some v else look i l
def ev (ts : List (Nat × Value)) : Operand → Option Value
 | .tmp t => look t ts
 | .const v => some v
 | .global g => some (.pointer (some ⟨g, 0, none⟩))
 | .func f => some (.func (.func f) #[] #[])
structure Fits (n : Nat) (D : List Deferred) (ts : List (Nat × Value)) (a : Act) : Prop where
 size : a.tmps.size = n
 defers : a.defers = D
 get : ∀ i v, look i ts = some v → a.tmps[i]? = some v
theorem Fits.eval {n : Nat} {D : List Deferred} {ts : List (Nat × Value)} {a : Act} (h : Fits n D ts a) {x : Operand} {v : Value} (hx : ev ts x = some v) : a.eval x = v := by
 cases x with
 | tmp t => simp [Act.eval, h.get t v hx]
 | const u => simpa [ev, Act.eval] using hx
 | global g => simpa [ev, Act.eval] using hx
 | func f => simpa [ev, Act.eval] using hx
theorem Fits.put {n : Nat} {D : List Deferred} {ts : List (Nat × Value)} {a : Act} (h : Fits n D ts a) (i : Nat) (hi : i < n) (v : Value) : Fits n D ((i, v) :: ts) (a.put (some i) v) := by
 refine ⟨by simp [Act.put, h.size], by simp [Act.put, h.defers], fun j u hj => ?_⟩
 simp only [look] at hj
 by_cases hij : j = i
 · subst hij
   simp at hj; subst hj
   simp [Act.put, h.size, hi]
 · have : Nat.beq j i = false := by cases hb : Nat.beq j i with | false => rfl | true => exact absurd (Nat.eq_of_beq_eq_true hb) hij
   rw [this] at hj
   simp only [cond_false] at hj
   simp [Act.put, Array.getElem?_setIfInBounds_ne (Ne.symm hij), h.get j u hj]
inductive Put (n : Nat) (v : Value) (ts : List (Nat × Value)) : Option Tmp → List (Nat × Value) → Prop where
 | none : Put n v ts none ts
 | some {i : Nat} (h : Nat.blt i n = true) : Put n v ts (some i) ((i, v) :: ts)
def At (E : Env) (n : Nat) (D : List Deferred) (ts : List (Nat × Value)) (l : List HP) (K : Act → World → Prop) : Prop := ∀ a w, Fits n D ts a → Holds E w l → K a w
end Go.SL

namespace Go.SL
open Go Go.RowKit
def Knows (ts : List (Nat × Value)) (a : Act) : Prop := ∀ i v, look i ts = some v → a.tmps[i]? = some v
theorem Fits.knows {n : Nat} {D : List Deferred} {ts : List (Nat × Value)} {a : Act} (h : Fits n D ts a) : Knows ts a := h.get
theorem Knows.eval {ts : List (Nat × Value)} {a : Act} (h : Knows ts a) {x : Operand} {v : Value} (hx : ev ts x = some v) : a.eval x = v := by
 cases x with
 | tmp t => simp [Act.eval, h t v hx]
 | const u => simpa [ev, Act.eval] using hx
 | global g => simpa [ev, Act.eval] using hx
 | func f => simpa [ev, Act.eval] using hx
def Any (_ : World) : Prop := True
def bI (p : Addr) (v : Value) (w : World) : Prop := w.cell? p = some v
def Ev (P : Program) (ts : List (Nat × Value)) (op : Op) (v : Value) (φ : World → Prop) : Prop :=
 ∀ a w (d : Option Tmp) (ty : TypeId) (pos : String) (af : Array Edge) (g : Option (Nat × Bool)), Knows ts a → φ w → (execOp a.eval ⟨d, op, ty, pos, af, g⟩).run P w = .ok (.value v) w
section
variable {P : Program} {ts : List (Nat × Value)}
theorem ag {x : Operand} {v : Value} (hx : ev ts x = some v) : Ev P ts (.move x) v Any := by
 intro a w _ _ _ _ _ k _
 simp [execOp, k.eval hx]
theorem az {x : Operand} {v : Value} (hx : ev ts x = some v) : Ev P ts (.assign x) v Any := by
 intro a w _ _ _ _ _ k _
 simp [execOp, k.eval hx]
theorem aM {c x y : Operand} {b : Bool} {u v : Value} (hc : ev ts c = some (.bool b)) (hx : ev ts x = some u) (hy : ev ts y = some v) : Ev P ts (.pick c x y) (if b then u else v) Any := by
 intro a w _ _ _ _ _ k _
 cases b <;> simp [execOp, k.eval hc, k.eval hx, k.eval hy, asBool]
theorem aq {x : Operand} {p : Addr} (hx : ev ts x = some (.pointer (some p))) : Ev P ts (.nilCheck x) (.pointer (some p)) Any := by
 intro a w _ _ _ _ _ k _
 simp [execOp, k.eval hx]
theorem ev_load {t : TypeId} {x : Operand} {p : Addr} {v : Value} {d : TypeDesc} (hd : P.underlying t = some d) (hn : (match d with | .struct _ | .array _ _ => true | _ => false) = false)
 (hx : ev ts x = some (.pointer (some p))) : Ev P ts (.load t x) v (bI p v) := by
 intro a w _ _ _ _ _ k hc
 have hu : (underlying t).run P w = .ok d w := run_underlying hd w
 have ha : (isAgg t).run P w = .ok false w := by
  unfold isAgg
  simp only [Sem.run_bind, hu, Result.andThen_ok]
  cases d <;> simp_all
 unfold bI at hc
 simp [execOp, k.eval hx, Instr.loadAt, Instr.sureAddr, loadVar, ha, hc]
end
end Go.SL
namespace Go.SL
open Go Go.RowKit
section
variable {P : Program} {ts : List (Nat × Value)}
theorem aO {t t' : TypeId} {x y : Operand} {k : IntKind} {a b r : Int} (hx : ev ts x = some (.int k a)) (hy : ev ts y = some (.int k b)) (hr : k.wrap (a + b) = r) : Ev P ts (.binOp .add t x y t') (.int k r) Any := by
 intro ac w _ _ _ _ _ kn _
 subst hr
 simp [execOp, kn.eval hx, kn.eval hy, binOp, Op.intArith, eqGuard]
theorem eQ {t t' : TypeId} {x y : Operand} {k : IntKind} {a b r : Int} (hx : ev ts x = some (.int k a)) (hy : ev ts y = some (.int k b)) (hr : k.wrap (a - b) = r) : Ev P ts (.binOp .sub t x y t') (.int k r) Any := by
 intro ac w _ _ _ _ _ kn _
 subst hr
 simp [execOp, kn.eval hx, kn.eval hy, binOp, Op.intArith, eqGuard]
theorem lF {t t' : TypeId} {x y : Operand} {k : IntKind} {a b r : Int} (hx : ev ts x = some (.int k a)) (hy : ev ts y = some (.int k b)) (hr : k.wrap (a * b) = r) : Ev P ts (.binOp .mul t x y t') (.int k r) Any := by
 intro ac w _ _ _ _ _ kn _
 subst hr
 simp [execOp, kn.eval hx, kn.eval hy, binOp, Op.intArith, eqGuard]
theorem kp {t t' : TypeId} {x y : Operand} {k : IntKind} {a b r : Int} (hx : ev ts x = some (.int k a)) (hy : ev ts y = some (.int k b)) (hb : b ≠ 0) (hr : k.wrap (a.tdiv b) = r) : Ev P ts (.binOp .quo t x y t') (.int k r) Any := by
 intro ac w _ _ _ _ _ kn _
 subst hr
 simp [execOp, kn.eval hx, kn.eval hy, binOp, Op.intDiv, eqGuard, hb]
theorem gO {t t' : TypeId} {x y : Operand} {k : IntKind} {a b r : Int} (hx : ev ts x = some (.int k a)) (hy : ev ts y = some (.int k b)) (hb : b ≠ 0) (hr : a.tmod b = r) : Ev P ts (.binOp .rem t x y t') (.int k r) Any := by
 intro ac w _ _ _ _ _ kn _
 subst hr
 simp [execOp, kn.eval hx, kn.eval hy, binOp, Op.intDiv, eqGuard, hb]
theorem js {t t' : TypeId} {x y : Operand} {k k' : IntKind} {a b r : Int} (hx : ev ts x = some (.int k a)) (hy : ev ts y = some (.int k' b)) (hb : 0 ≤ b) (hr : k.wrap (a * 2 ^ min b.toNat k.bits) = r) : Ev P ts (.binOp .shl t x y t') (.int k r) Any := by
 intro ac w _ _ _ _ _ kn _
 subst hr
 have : ¬ b < 0 := by omega
 simp [execOp, kn.eval hx, kn.eval hy, binOp, Op.shift, eqGuard, this]
theorem ed {t t' : TypeId} {x y : Operand} {k k' : IntKind} {a b r : Int} (hx : ev ts x = some (.int k a)) (hy : ev ts y = some (.int k' b)) (hb : 0 ≤ b) (hr : a.fdiv (2 ^ min b.toNat k.bits) = r) : Ev P ts (.binOp .shr t x y t') (.int k r) Any := by
 intro ac w _ _ _ _ _ kn _
 subst hr
 have : ¬ b < 0 := by omega
 simp [execOp, kn.eval hx, kn.eval hy, binOp, Op.shift, eqGuard, this]
theorem p9 {t t' : TypeId} {x y : Operand} {k : IntKind} {a b r : Int} (hx : ev ts x = some (.int k a)) (hy : ev ts y = some (.int k b)) (hr : bits .and k a b = r) : Ev P ts (.binOp .and t x y t') (.int k r) Any := by
 intro ac w _ _ _ _ _ kn _
 subst hr
 simp [execOp, kn.eval hx, kn.eval hy, binOp, intBits_and, eqGuard]
theorem re {t t' : TypeId} {x y : Operand} {k : IntKind} {a b r : Int} (hx : ev ts x = some (.int k a)) (hy : ev ts y = some (.int k b)) (hr : bits .or k a b = r) : Ev P ts (.binOp .or t x y t') (.int k r) Any := by
 intro ac w _ _ _ _ _ kn _
 subst hr
 simp [execOp, kn.eval hx, kn.eval hy, binOp, intBits_or, eqGuard]
theorem Ch {t t' : TypeId} {x y : Operand} {k : IntKind} {a b r : Int} (hx : ev ts x = some (.int k a)) (hy : ev ts y = some (.int k b)) (hr : bits .xor k a b = r) : Ev P ts (.binOp .xor t x y t') (.int k r) Any := by
 intro ac w _ _ _ _ _ kn _
 subst hr
 simp [execOp, kn.eval hx, kn.eval hy, binOp, intBits_xor, eqGuard]
theorem pG {t t' : TypeId} {x y : Operand} {k : IntKind} {a b r : Int} (hx : ev ts x = some (.int k a)) (hy : ev ts y = some (.int k b)) (hr : bits .andNot k a b = r) : Ev P ts (.binOp .andNot t x y t') (.int k r) Any := by
 intro ac w _ _ _ _ _ kn _
 subst hr
 simp [execOp, kn.eval hx, kn.eval hy, binOp, intBits_andNot, eqGuard]
theorem bf {t t' : TypeId} {x y : Operand} {k : IntKind} {a b : Int} {r : Bool} (hx : ev ts x = some (.int k a)) (hy : ev ts y = some (.int k b)) (hr : decide (a < b) = r) : Ev P ts (.binOp .lss t x y t') (.bool r) Any := by
 intro ac w _ _ _ _ _ kn _
 subst hr
 simp [execOp, kn.eval hx, kn.eval hy, binOp, Op.intCmp, eqGuard]
theorem yD {t t' : TypeId} {x y : Operand} {k : IntKind} {a b : Int} {r : Bool} (hx : ev ts x = some (.int k a)) (hy : ev ts y = some (.int k b)) (hr : decide (a ≤ b) = r) : Ev P ts (.binOp .leq t x y t') (.bool r) Any := by
 intro ac w _ _ _ _ _ kn _
 subst hr
 simp [execOp, kn.eval hx, kn.eval hy, binOp, Op.intCmp, eqGuard]
theorem dZ {t t' : TypeId} {x y : Operand} {k : IntKind} {a b : Int} {r : Bool} (hx : ev ts x = some (.int k a)) (hy : ev ts y = some (.int k b)) (hr : decide (b < a) = r) : Ev P ts (.binOp .gtr t x y t') (.bool r) Any := by
 intro ac w _ _ _ _ _ kn _
 subst hr
 simp [execOp, kn.eval hx, kn.eval hy, binOp, Op.intCmp, eqGuard]
theorem nb {t t' : TypeId} {x y : Operand} {k : IntKind} {a b : Int} {r : Bool} (hx : ev ts x = some (.int k a)) (hy : ev ts y = some (.int k b)) (hr : decide (b ≤ a) = r) : Ev P ts (.binOp .geq t x y t') (.bool r) Any := by
 intro ac w _ _ _ _ _ kn _
 subst hr
 simp [execOp, kn.eval hx, kn.eval hy, binOp, Op.intCmp, eqGuard]
theorem aV {t t' : TypeId} {x y : Operand} {k : IntKind} {a b : Int} {r : Bool} (hx : ev ts x = some (.int k a)) (hy : ev ts y = some (.int k b)) (hr : decide (a = b) = r) : Ev P ts (.binOp .eql t x y t') (.bool r) Any := by
 intro ac w _ _ _ _ _ kn _
 subst hr
 by_cases h : a = b <;> simp [execOp, kn.eval hx, kn.eval hy, binOp, Op.intCmp, eqGuard, h]
theorem cr {t t' : TypeId} {x y : Operand} {k : IntKind} {a b : Int} {r : Bool} (hx : ev ts x = some (.int k a)) (hy : ev ts y = some (.int k b)) (hr : decide (a ≠ b) = r) : Ev P ts (.binOp .neq t x y t') (.bool r) Any := by
 intro ac w _ _ _ _ _ kn _
 subst hr
 by_cases h : a = b <;> simp [execOp, kn.eval hx, kn.eval hy, binOp, Op.intCmp, eqGuard, h]
theorem dp {op : BinOp} {t t' : TypeId} {x y : Operand} {u v r : Value} {a : Act} {w : World} {d : Option Tmp} {ty : TypeId} {pos : String} {af : Array Edge} {g : Option (Nat × Bool)} (hx : a.eval x = u) (hy : a.eval y = v)
 (hg : (eqGuard op t x y u v).run P w = .ok () w) (hb : (binOp op t u v).run P w = .ok r w) : (execOp a.eval ⟨d, .binOp op t x y t', ty, pos, af, g⟩).run P w = .ok (.value r) w := by
 simp [execOp, hx, hy, hg, hb]
theorem jR {t : TypeId} {u v : Value} {r : Bool} {w : World} (hs : binOp .eql t u v = (do pure (.bool (← Op.equal t u v)))) (h : ∀ d, (Op.equalIn (d + 1) t u v).run P w = .ok r w) : (binOp .eql t u v).run P w = .ok (.bool r) w := by
 rw [hs]
 simp only [Op.equal, Op.maxDepth, Sem.run_bind, h 9999, Result.andThen_ok, Sem.run_pure]
theorem qv {t : TypeId} {u v : Value} {r : Bool} {w : World} (hs : binOp .neq t u v = (do pure (.bool (!(← Op.equal t u v))))) (h : ∀ d, (Op.equalIn (d + 1) t u v).run P w = .ok r w) : (binOp .neq t u v).run P w = .ok (.bool (!r)) w := by
 rw [hs]
 simp only [Op.equal, Op.maxDepth, Sem.run_bind, h 9999, Result.andThen_ok, Sem.run_pure]
theorem ck {t : TypeId} {x : Operand} {a r : Bool} (hx : ev ts x = some (.bool a)) (hr : (!a) = r) : Ev P ts (.unOp .not t x) (.bool r) Any := by
 intro ac w _ _ _ _ _ kn _
 subst hr
 simp [execOp, kn.eval hx, Op.unary]
theorem yC {t : TypeId} {x : Operand} {k : IntKind} {a r : Int} (hx : ev ts x = some (.int k a)) (hr : k.wrap (0 - a) = r) : Ev P ts (.unOp .neg t x) (.int k r) Any := by
 intro ac w _ _ _ _ _ kn _
 subst hr
 simp [execOp, kn.eval hx, Op.unary, Op.intArith]
theorem bq {s d : TypeId} {ds : TypeDesc} {x : Operand} {k k' : IntKind} {a r : Int} (hs : P.underlying s = some ds) (hd : P.underlying d = some (.int k)) (hx : ev ts x = some (.int k' a)) (hr : k.wrap a = r) : Ev P ts (.convert s d x) (.int k r) Any := by
 intro ac w _ _ _ _ _ kn _
 subst hr
 simp [execOp, kn.eval hx, convert, run_underlying hs, run_underlying hd, Conv.intToInt]
theorem co {t t' : TypeId} {x : Operand} {d : TypeId} {v : Value} {ms : Array (String × TypeId)} (ht : P.underlying t = some (.interface ms)) (hx : ev ts x = some (.iface d v)) : Ev P ts (.binOp .eql t x (.const (.nilIface)) t') (.bool false) Any := by
 intro ac w _ _ _ _ _ kn _
 exact dp (kn.eval hx) (kn.eval (x := .const _) rfl) (by simp [eqGuard]) (jR rfl fun d => by simp [Op.equalIn, run_underlying ht])
theorem fg {t t' : TypeId} {x : Operand} {d : TypeId} {v : Value} {ms : Array (String × TypeId)} (ht : P.underlying t = some (.interface ms)) (hx : ev ts x = some (.iface d v)) : Ev P ts (.binOp .neq t x (.const (.nilIface)) t') (.bool true) Any := by
 intro ac w _ _ _ _ _ kn _
 exact dp (kn.eval hx) (kn.eval (x := .const _) rfl) (by simp [eqGuard]) (qv (r := false) rfl fun d => by simp [Op.equalIn, run_underlying ht])
theorem g0 {t t' : TypeId} {x : Operand} {ms : Array (String × TypeId)} (ht : P.underlying t = some (.interface ms)) (hx : ev ts x = some (.nilIface)) : Ev P ts (.binOp .eql t x (.const (.nilIface)) t') (.bool true) Any := by
 intro ac w _ _ _ _ _ kn _
 exact dp (kn.eval hx) (kn.eval (x := .const _) rfl) (by simp [eqGuard]) (jR rfl fun d => by simp [Op.equalIn, run_underlying ht])
theorem cb {t t' : TypeId} {x : Operand} {ms : Array (String × TypeId)} (ht : P.underlying t = some (.interface ms)) (hx : ev ts x = some (.nilIface)) : Ev P ts (.binOp .neq t x (.const (.nilIface)) t') (.bool false) Any := by
 intro ac w _ _ _ _ _ kn _
 exact dp (kn.eval hx) (kn.eval (x := .const _) rfl) (by simp [eqGuard]) (qv (r := true) rfl fun d => by simp [Op.equalIn, run_underlying ht])
theorem dg {t t' e : TypeId} {x : Operand} {p : Option Addr} {r : Bool} (ht : P.underlying t = some (.pointer e)) (hx : ev ts x = some (.pointer p)) (hr : p.isNone = r) : Ev P ts (.binOp .eql t x (.const (.pointer none)) t') (.bool r) Any := by
 intro ac w _ _ _ _ _ kn _
 subst hr
 exact dp (kn.eval hx) (kn.eval (x := .const _) rfl) (by simp [eqGuard]) (jR rfl fun d => by cases p <;> simp [Op.equalIn, run_underlying ht])
theorem i8 {t t' e : TypeId} {x : Operand} {p : Option Addr} {n c n' c' : Nat} {r : Bool} (ht : P.underlying t = some (.slice e)) (hx : ev ts x = some (.slice p n c)) (hr : p.isNone = r) : Ev P ts (.binOp .eql t x (.const (Value.slice none n' c')) t') (.bool r) Any := by
 intro ac w _ _ _ _ _ kn _
 subst hr
 exact dp (kn.eval hx) (kn.eval (x := .const _) rfl) (by simp [eqGuard]) (jR rfl fun d => by cases p <;> simp [Op.equalIn, run_underlying ht])
theorem oe {t t' e : TypeId} {x : Operand} {p : Option Addr} {n c n' c' : Nat} {r : Bool} (ht : P.underlying t = some (.slice e)) (hx : ev ts x = some (.slice p n c)) (hr : (!p.isNone) = r) : Ev P ts (.binOp .neq t x (.const (Value.slice none n' c')) t') (.bool r) Any := by
 intro ac w _ _ _ _ _ kn _
 subst hr
 exact dp (kn.eval hx) (kn.eval (x := .const _) rfl) (by simp [eqGuard]) (qv rfl fun d => by cases p <;> simp [Op.equalIn, run_underlying ht])
theorem add_plain (b o n : Nat) : (⟨b, o, none⟩ : Addr).add n = ⟨b, o + n, none⟩ := by
 unfold Addr.add; split <;> simp_all
def kZ (P : Program) (s : TypeId) (j : Nat) : Option Nat :=
 match P.underlying s with
 | some (.struct fields) => match fields[j]? with
  | some f => match P.info? f.type with
   | some i => if i.size = 0 then none else some f.offset
   | none => none
  | none => none
 | _ => none
theorem sj {s : TypeId} {j off : Nat} (h : kZ P s j = some off) (b o : Nat) (w : World) : (Instr.fieldAt s (.pointer (some ⟨b, o, none⟩)) j).run P w = .ok (.pointer (some ⟨b, o + off, none⟩)) w := by
 unfold kZ at h
 split at h
 · rename_i fields hu
   split at h
   · rename_i f hf
     split at h
     · rename_i i hi
       split at h
       · cases h
       · rename_i hz
         injection h with h
         subst h
         simp [Instr.fieldAt, run_underlying hu, hf, Instr.sureAddr, fieldPlace, sizeOf, typeInfo, hi, hz, add_plain]
     · cases h
   · cases h
 · cases h
theorem ab {s : TypeId} {x : Operand} {j off b o : Nat} (h : kZ P s j = some off) (hx : ev ts x = some (.pointer (some ⟨b, o, none⟩))) : Ev P ts (.fieldAddr s x j) (.pointer (some ⟨b, o + off, none⟩)) Any := by
 intro ac w _ _ _ _ _ kn _
 simp [execOp, kn.eval hx, sj h]
def bZ (P : Program) (t : TypeId) (n : Nat) : Prop := (P.info? t).map (·.size) = some n
theorem bP {t : TypeId} {n : Nat} (h : bZ P t n) (w : World) : (sizeOf t).run P w = .ok n w := by
 unfold bZ at h
 cases hi : P.info? t with
 | none => simp [hi] at h
 | some i => simp [hi] at h; simp [sizeOf, typeInfo, hi, h]
theorem Ci {t e : TypeId} {x y : Operand} {k : IntKind} {i : Int} {b o n c z : Nat} (ht : P.underlying t = some (.slice e)) (hz : bZ P e z) (hx : ev ts x = some (.slice (some ⟨b, o, none⟩) n c)) (hy : ev ts y = some (.int k i)) (h0 : 0 ≤ i) (h1 : i < n) :
 Ev P ts (.indexAddr t x y) (.pointer (some ⟨b, o + i.toNat * z, none⟩)) Any := by
 intro ac w _ _ _ _ _ kn _
 simp [execOp, kn.eval hx, kn.eval hy, Instr.indexAt, asIntOf, run_underlying ht, bP hz, h0, h1, add_plain]
theorem bD {t e : TypeId} {x y : Operand} {k : IntKind} {i b o n c z : Nat} (ht : P.underlying t = some (.slice e)) (hz : bZ P e z) (hx : ev ts x = some (.slice (some ⟨b, o, none⟩) n c)) (hy : ev ts y = some (.int k (i : Int))) (h1 : i < n) :
 Ev P ts (.indexAddr t x y) (.pointer (some ⟨b, o + i * z, none⟩)) Any := Ci ht hz hx hy (by omega) (by omega)
theorem Cj {t e : TypeId} {x y : Operand} {k : IntKind} {i : Int} {b o n z : Nat} (ht : P.underlying t = some (.array n e)) (hz : bZ P e z) (hx : ev ts x = some (.pointer (some ⟨b, o, none⟩))) (hy : ev ts y = some (.int k i)) (h0 : 0 ≤ i) (h1 : i < n) :
 Ev P ts (.indexAddr t x y) (.pointer (some ⟨b, o + i.toNat * z, none⟩)) Any := by
 intro ac w _ _ _ _ _ kn _
 simp [execOp, kn.eval hx, kn.eval hy, Instr.indexAt, asIntOf, run_underlying ht, Instr.sureAddr, bP hz, h0, h1, add_plain]
def iu (P : Program) (t : TypeId) : Option Bool :=
 match P.underlying t with
 | some (.struct _) | some (.array _ _) => some true
 | some _ => some false
 | none => none
theorem gX {t : TypeId} {b : Bool} (h : iu P t = some b) (w : World) : (isAgg t).run P w = .ok b w := by
 unfold iu at h
 unfold isAgg
 cases hu : P.underlying t with
 | none => rw [hu] at h; cases h
 | some d =>
  rw [hu] at h
  rw [Sem.run_bind, run_underlying hu, Result.andThen_ok]
  cases d <;> (injection h with h; subst h; rfl)
theorem aa {t : TypeId} {x : Operand} {p : Addr} {v : Value} (hd : iu P t = some false) (hx : ev ts x = some (.pointer (some p))) : Ev P ts (.load t x) v (bI p v) := by
 intro a w _ _ _ _ _ k hc
 unfold bI at hc
 simp [execOp, k.eval hx, Instr.loadAt, Instr.sureAddr, loadVar, gX hd, hc]
def gK (b o : Nat) (vs : List Value) (w : World) : Prop := ∀ j v, vs[j]? = some v → w.cell? ⟨b, o + j, none⟩ = some v
theorem eb {b o : Nat} {w : World} : ∀ (vs : List Value) (i : Nat) (acc : Array Value), (∀ j v, vs[j]? = some v → w.cell? ⟨b, o + (i + j), none⟩ = some v) → (loadCellsFrom ⟨b, o, none⟩ i vs.length acc).run P w = .ok (acc ++ vs.toArray) w
 | [], i, acc, _ => by simp [loadCellsFrom]
 | v :: vs, i, acc, h => by
  have h0 := h 0 v (by simp)
  rw [Nat.add_zero] at h0
  have ih := eb vs (i + 1) (acc.push v) fun j u hj => by
   have := h (j + 1) u (by simpa using hj)
   rw [show i + 1 + j = i + (j + 1) by omega]; exact this
  simp [loadCellsFrom, add_plain, h0, ih]
theorem am {t : TypeId} {x : Operand} {b o n : Nat} {vs : List Value} (hd : iu P t = some true) (hz : bZ P t n) (hn : vs.length = n) (hx : ev ts x = some (.pointer (some ⟨b, o, none⟩))) : Ev P ts (.load t x) (.agg vs.toArray) (gK b o vs) := by
 intro a w _ _ _ _ _ k hc
 subst hn
 have := eb (P := P) vs 0 #[] (fun j v hj => by simpa using hc j v hj)
 simp [execOp, k.eval hx, Instr.loadAt, Instr.sureAddr, loadVar, gX hd, bP hz, loadCells, this]
end
end Go.SL

namespace Go.SL
open Go Go.RowKit
class Has (b : Nat) (l : List HP) (o : outParam Obj) (r : outParam (List HP)) : Prop where
 sel : Sel (ob b o) l r
instance Has.head {b : Nat} {o : Obj} {l : List HP} : Has b (ob b o :: l) o l := ⟨.head⟩
instance (priority := low) Has.tail {b : Nat} {o : Obj} {l r : List HP} {p : HP} [h : Has b l o r] : Has b (p :: l) o (p :: r) := ⟨.tail h.sel⟩
section
variable {P : Program} {E : Env} {n : Nat} {D : List Deferred} {ts : List (Nat × Value)} {l : List HP} {ops : Array Oper} {Q : Exit → Act → World → Prop} {rest : List Oper}
theorem At.mono {K K' : Act → World → Prop} (h : At E n D ts l K) (hk : ∀ a w, K a w → K' a w) : At E n D ts l K' := fun a w f s => hk a w (h a w f s)
theorem At.ent {l' : List HP} {K : Act → World → Prop} (e : Ent l l') (h : At E n D ts l' K) : At E n D ts l K := fun a w f s => h a w f (s.ent e)
def Sub : List (Nat × Value) → List (Nat × Value) → Prop
 | [], _ => True
 | (i, v) :: t, ts => look i ts = some v ∧ Sub t ts
theorem Sub.look : ∀ {t ts : List (Nat × Value)}, Sub t ts → ∀ {i : Nat} {v : Value}, SL.look i t = some v → SL.look i ts = some v
 | [], _, _, _, _, h => by simp [SL.look] at h
 | (j, u) :: t, ts, ⟨h0, h1⟩, i, v, h => by
  simp only [SL.look] at h
  cases hb : Nat.beq i j with
  | true =>
   rw [hb] at h
   simp at h
   rw [Nat.eq_of_beq_eq_true hb, ← h]; exact h0
  | false => rw [hb] at h; exact h1.look h
theorem Fits.sub {t : List (Nat × Value)} {a : Act} (h : Fits n D ts a) (s : Sub t ts) : Fits n D t a := ⟨h.size, h.defers, fun i v hi => h.get i v (s.look hi)⟩
theorem At.ex {α : Sort _} {g : α → HP} {r : List HP} {K : Act → World → Prop} (s : Sel (HP.ex g) l r) (h : ∀ x, At E n D ts (g x :: r) K) : At E n D ts l K := fun a w f hw => by
 have h1 := hw.sel s
 obtain ⟨F1, F2, h2, h3, hd, ⟨x, hx⟩, hl⟩ := h1.star
 exact h x a w f ⟨hw.is, F1, F2, h2, h3, hd, hx, hl⟩
theorem At.pure {p : Prop} {r : List HP} {K : Act → World → Prop} (s : Sel (HP.pure p) l r) (h : p → At E n D ts r K) : At E n D ts l K := fun a w f hw => by
 have h1 := hw.sel s
 obtain ⟨F1, F2, h2, h3, hd, hx, hl⟩ := h1.star
 exact h hx a w f ⟨hw.is, hl.mono h3⟩
theorem eC {p : Prop} {K : Act → World → Prop} (hp : ∀ w, Holds E w l → p) (h : p → At E n D ts l K) : At E n D ts l K := fun a w f hw => h (hp w hw) a w f hw
theorem L.nil (h : At E n D ts l (Q .normal)) : At E n D ts l (wpList P ops Q []) := h
theorem L.op {o : Oper} (hg : o.guard = none) (h : At E n D ts l (fun a w => o.wp P a w (wpList P ops Q rest) Q)) : At E n D ts l (wpList P ops Q (o :: rest)) := fun a w f hw => by
 unfold wpList
 rw [if_pos (by simp [Region.wanted, hg])]
 exact .inl (h a w f hw)
theorem Ev.wp {op : Op} {v : Value} {φ : World → Prop} (h : Ev P ts op v φ) {a : Act} {w : World} {d : Option Tmp} {ty : TypeId} {pos : String} {af : Array Edge} {g : Option (Nat × Bool)} {K : Act → World → Prop} (k : Knows ts a) (hφ : φ w) (hk : K (a.put d v) w) :
 (Oper.mk d op ty pos af g).wp P a w K Q := by
 unfold Oper.wp
 rw [h a w d ty pos af g k hφ]
 exact hk
theorem L.val {op : Op} {v : Value} {φ : World → Prop} {i : Nat} {ty : TypeId} {pos : String} {af : Array Edge} (hi : Nat.blt i n = true) (hev : Ev P ts op v φ) (hφ : ∀ w, Holds E w l → φ w) (h : At E n D ((i, v) :: ts) l (wpList P ops Q rest)) :
 At E n D ts l (wpList P ops Q (⟨some i, op, ty, pos, af, none⟩ :: rest)) :=
 L.op rfl fun _a w f hw => hev.wp f.knows (hφ w hw) (h _ w (f.put i (Nat.le_of_ble_eq_true hi) v) hw)
theorem L.pure {op : Op} {v : Value} {i : Nat} {ty : TypeId} {pos : String} {af : Array Edge} (hi : Nat.blt i n = true) (hev : Ev P ts op v Any) (h : At E n D ((i, v) :: ts) l (wpList P ops Q rest)) :
 At E n D ts l (wpList P ops Q (⟨some i, op, ty, pos, af, none⟩ :: rest)) := L.val hi hev (fun _ _ => trivial) h
theorem L.on {o : Oper} {j t : Nat} {b : Bool} (hg : o.guard = some (j, b)) (ht : (ops[j]?).bind (·.dst) = some t) (hv : look t ts = some (.bool b)) (h : At E n D ts l (fun a w => o.wp P a w (wpList P ops Q rest) Q)) : At E n D ts l (wpList P ops Q (o :: rest)) := fun a w f hw => by
 unfold wpList
 rw [if_pos (by simp [Region.wanted, hg, yielded, ht, f.get t _ hv])]
 exact .inl (h a w f hw)
theorem L.off {o : Oper} {j t i : Nat} {b c : Bool} (hd : o.dst = some i) (hi : Nat.blt i n = true) (hg : o.guard = some (j, b)) (ht : (ops[j]?).bind (·.dst) = some t) (hv : look t ts = some (.bool c)) (hb : c = !b) (h : At E n D ((i, undef) :: ts) l (wpList P ops Q rest)) : At E n D ts l (wpList P ops Q (o :: rest)) := fun a w f hw => by
 unfold wpList
 rw [if_neg (by subst hb; cases b <;> simp [Region.wanted, hg, yielded, ht, f.get t _ hv]), hd]
 exact h _ w (f.put i (Nat.le_of_ble_eq_true hi) _) hw
theorem qd {op : Op} {v : Value} {φ : World → Prop} {i : Nat} {ty : TypeId} {pos : String} {af : Array Edge} {g : Option (Nat × Bool)} {K : Act → World → Prop} (hi : Nat.blt i n = true) (hev : Ev P ts op v φ) (hφ : ∀ w, Holds E w l → φ w) (h : At E n D ((i, v) :: ts) l K) :
 At E n D ts l (fun a w => (Oper.mk (some i) op ty pos af g).wp P a w K Q) := fun _a w f hw => hev.wp f.knows (hφ w hw) (h _ w (f.put i (Nat.le_of_ble_eq_true hi) v) hw)
theorem ae {b i : Nat} {t : TypeId} {cs : Array Value} {fz : Nat × Nat} {r : List HP} {v : Value} [h : Has b l (.cells cs t fz) r] (hv : cs[i]? = some v) : ∀ w, Holds E w l → bI ⟨b, i, none⟩ v w := fun w hw => by
 have := (hw.ob h.sel).1
 simp [bI, World.cell?, this, hv]
theorem uO {b i : Nat} {t : TypeId} {cs : Array Value} {fz : Nat × Nat} {r : List HP} {vs : List Value} [h : Has b l (.cells cs t fz) r] (hv : ∀ j v, vs[j]? = some v → cs[i + j]? = some v) : ∀ w, Holds E w l → gK b i vs w := fun w hw j v hj => by
 have := (hw.ob h.sel).1
 simp [World.cell?, this, hv j v hj]
theorem ye {o : Oper} {i : Nat} {t : TypeId} {cs : Array Value} {K : Act → World → Prop} {a : Act} {w : World} (hd : o.dst = some i) (hi : Nat.blt i n = true)
 (hr : (execOp a.eval o).run P w = .ok (.value (.pointer (some ⟨w.heap.size, 0, none⟩))) (w.alloc (.cells cs t)))
 (h : ∀ b, At E n D ((i, .pointer (some ⟨b, 0, none⟩)) :: ts) (blk b t cs :: l) K) (f : Fits n D ts a) (hw : Holds E w l) : o.wp P a w K Q := by
 unfold Oper.wp
 rw [hr]
 show K (a.put o.dst _) _
 rw [hd]
 exact h _ _ _ (f.put i (Nat.le_of_ble_eq_true hi) _) (hw.alloc _)
def fq (P : Program) (t : TypeId) (z : Value) : Prop := (P.info? t).bind (·.zero) = some z
theorem e9 {t : TypeId} {z : Value} (h : fq P t z) (w : World) : (zeroValue t).run P w = .ok z w := by
 unfold fq at h
 cases hi : P.info? t with
 | none => simp [hi] at h
 | some i => simp [hi] at h; simp [zeroValue, typeInfo, hi, h]
theorem aH {i : Nat} {t ty : TypeId} {pos : String} {af : Array Edge} {g : Option (Nat × Bool)} {z : Value} {K : Act → World → Prop} (hi : Nat.blt i n = true) (hz : fq P t z)
 (h : ∀ b, At E n D ((i, .pointer (some ⟨b, 0, none⟩)) :: ts) (blk b t z.cells :: l) K) : At E n D ts l (fun a w => (Oper.mk (some i) (.alloc t) ty pos af g).wp P a w K Q) := fun a w f hw =>
 ye rfl hi (by simp [execOp, Instr.alloc, e9 hz, newVar, newRow]) h f hw
theorem cc {i : Nat} {t ty : TypeId} {pos : String} {af : Array Edge} {g : Option (Nat × Bool)} {x : Operand} {v : Value} {K : Act → World → Prop} (hi : Nat.blt i n = true) (hx : ev ts x = some v)
 (h : ∀ b, At E n D ((i, .pointer (some ⟨b, 0, none⟩)) :: ts) (blk b t v.cells :: l) K) : At E n D ts l (fun a w => (Oper.mk (some i) (.box t x) ty pos af g).wp P a w K Q) := fun a w f hw =>
 ye rfl hi (by simp [execOp, Instr.box, f.eval hx, newVar, newRow]) h f hw
theorem Holds.store {E : Env} {w : World} {l r : List HP} {b i : Nat} {t : TypeId} {cs : Array Value} {v : Value} (h : Holds E w l) (s : Sel (blk b t cs) l r) : Holds E (w.setCell ⟨b, i, none⟩ v) (blk b t (cs.setIfInBounds i v) :: r) := by
 have h1 := h.sel s
 have hb := (h.ob s).1
 refine Holds.set (w := w) h1 rfl rfl rfl (by simp [World.setCell]) ?_ fun k hk => Below.heap_setCell _ _ _ _ (by simpa using hk)
 simp [World.setCell, hb, Array.getElem?_modify]
theorem gW {w : World} {b i : Nat} {t : TypeId} {cs : Array Value} {v : Value} (hb : w.heap[b]? = some (.cells cs t)) (hi : i < cs.size) (hv : v.oneCell' = true) : (store ⟨b, i, none⟩ v).run P w = .ok () (w.setCell ⟨b, i, none⟩ v) := by
 rw [run_store P w _ _ _ hv]
 simp [World.cell?, World.frozen?, hb, hi]
theorem gH {v : Value} (h : v.oneCell' = true) : v.cells = #[v] := by cases v <;> simp_all [Value.oneCell', Value.cells]
theorem bC {t ty : TypeId} {d : Option Tmp} {pos : String} {af : Array Edge} {g : Option (Nat × Bool)} {x y : Operand} {b i : Nat} {tb : TypeId} {cs : Array Value} {r : List HP} {v : Value} {K : Act → World → Prop} [hh : Has b l (.cells cs tb) r]
 (hd : d = none) (hz : bZ P t 1) (hx : ev ts x = some (.pointer (some ⟨b, i, none⟩))) (hy : ev ts y = some v) (hv : v.oneCell' = true) (hi : i < cs.size)
 (h : At E n D ts (blk b tb (cs.setIfInBounds i v) :: r) K) : At E n D ts l (fun a w => (Oper.mk d (.store t x y) ty pos af g).wp P a w K Q) := fun a w f hw => by
 subst hd
 have hb := (hw.ob hh.sel).1
 have : (execOp a.eval ⟨none, .store t x y, ty, pos, af, g⟩).run P w = .ok .skip (w.setCell ⟨b, i, none⟩ v) := by
  simp [execOp, f.eval hx, f.eval hy, Instr.storeAt, Instr.sureAddr, storeVar, bP hz, gH hv, storeCells, add_plain, gW hb hi hv]
 unfold Oper.wp
 rw [this]
 exact h _ _ f (hw.store hh.sel)
def eZ (cs : Array Value) (i : Nat) : List Value → Array Value
 | [] => cs
 | v :: vs => eZ (cs.setIfInBounds i v) (i + 1) vs
theorem eo : ∀ (vs : List Value) (cs : Array Value) (i : Nat), (eZ cs i vs).size = cs.size
 | [], _, _ => rfl
 | v :: vs, cs, i => by simp [eZ, eo vs]
theorem fC {b : Nat} {t : TypeId} : ∀ (vs : List Value) (w : World) (cs : Array Value) (o i : Nat), w.heap[b]? = some (.cells cs t) → o + i + vs.length ≤ cs.size → (∀ v ∈ vs, v.oneCell' = true) →
 ∃ w', (storeCells ⟨b, o, none⟩ vs i).run P w = .ok () w' ∧ w'.heap[b]? = some (.cells (eZ cs (o + i) vs) t) ∧ w'.os = w.os ∧ w'.tape = w.tape ∧ w'.output = w.output ∧ w'.heap.size = w.heap.size ∧ (∀ k, k ≠ b → w'.heap[k]? = w.heap[k]?)
 | [], w, cs, o, i, hb, _, _ => ⟨w, by simp [storeCells], by simpa [eZ] using hb, rfl, rfl, rfl, rfl, fun _ _ => rfl⟩
 | v :: vs, w, cs, o, i, hb, hl, hv => by
  simp only [List.length_cons] at hl
  have h1 := gW (P := P) (i := o + i) hb (by omega) (hv v (by simp))
  have hb' : (w.setCell ⟨b, o + i, none⟩ v).heap[b]? = some (.cells (cs.setIfInBounds (o + i) v) t) := by simp [World.setCell, hb, Array.getElem?_modify]
  obtain ⟨w', hr, h2, h3, h4, h5, h6, h7⟩ := fC vs _ _ o (i + 1) hb' (by simp; omega) (fun u hu => hv u (by simp [hu]))
  refine ⟨w', ?_, ?_, h3, h4, h5, by rw [h6]; simp [World.setCell], fun k hk => (h7 k hk).trans (Below.heap_setCell _ _ _ _ (by simpa using hk))⟩
  · simp [storeCells, add_plain, h1, hr]
  · rw [h2]; simp [eZ, Nat.add_assoc]
theorem aG {t ty : TypeId} {d : Option Tmp} {pos : String} {af : Array Edge} {g : Option (Nat × Bool)} {x y : Operand} {b i m : Nat} {tb : TypeId} {cs : Array Value} {r : List HP} {vs : List Value} {K : Act → World → Prop} [hh : Has b l (.cells cs tb) r]
 (hd : d = none) (hz : bZ P t m) (hx : ev ts x = some (.pointer (some ⟨b, i, none⟩))) (hy : ev ts y = some (.agg vs.toArray)) (hm : vs.length = m) (hv : ∀ v ∈ vs, v.oneCell' = true) (hi : i + vs.length ≤ cs.size)
 (h : At E n D ts (blk b tb (eZ cs i vs) :: r) K) : At E n D ts l (fun a w => (Oper.mk d (.store t x y) ty pos af g).wp P a w K Q) := fun a w f hw => by
 subst hd
 subst hm
 have h0 := hw.sel hh.sel
 have hb := (hw.ob hh.sel).1
 obtain ⟨w', hr, h2, h3, h4, h5, h6, h7⟩ := fC (P := P) vs w cs i 0 hb (by simpa using hi) hv
 have : (execOp a.eval ⟨none, .store t x y, ty, pos, af, g⟩).run P w = .ok .skip w' := by
  simp [execOp, f.eval hx, f.eval hy, Instr.storeAt, Instr.sureAddr, storeVar, bP hz, Value.cells, hr]
 unfold Oper.wp
 rw [this]
 exact h _ _ f (Holds.set h0 h3 h4 h5 h6 (by simpa using h2) h7)
theorem At.seq {x y : Code} (h : At E n D ts l (x.wp P (Exit.then (y.wp P Q) Q))) : At E n D ts l ((Code.seq x y).wp P Q) := fun a w f hw => wp_seq (h a w f hw)
theorem At.skip (h : At E n D ts l (Q .normal)) : At E n D ts l (Code.skip.wp P Q) := fun a w f hw => wp_skip (h a w f hw)
theorem At.exit {id : Nat} (h : At E n D ts l (Q (.exit id))) : At E n D ts l ((Code.exit id).wp P Q) := fun a w f hw => wp_exit (h a w f hw)
theorem At.ret (h : At E n D ts l (Q .ret)) : At E n D ts l (Code.ret.wp P Q) := fun a w f hw => wp_ret (h a w f hw)
theorem z8 {k : Nat} (h : At E n D ts l (Q .normal)) : At E n D ts l ((Code.label k).wp P Q) := fun a w f hw => wp_label (h a w f hw)
theorem At.block {id : Nat} {c : Code} (h : At E n D ts l (c.wp P (Exit.inBlock id Q))) : At E n D ts l ((Code.block id c).wp P Q) := fun a w f hw => wp_block (h a w f hw)
theorem At.region {id : Nat} {os : List Oper} (h : At E n D ts l (wpList P os.toArray Q os)) : At E n D ts l ((Code.region id os.toArray false).wp P Q) := fun a w f hw => wp_region_lit (h a w f hw)
theorem eD {c : Operand} {x y : Code} {b : Bool} (hc : ev ts c = some (.bool b)) (ht : b = true → At E n D ts l (x.wp P Q)) (hf : b = false → At E n D ts l (y.wp P Q)) : At E n D ts l ((Code.cond c x y).wp P Q) := fun a w f hw =>
 wp_cond_split (f.eval hc) (fun h => ht h a w f hw) (fun h => hf h a w f hw)
theorem aC {c : Operand} {x y : Code} {p : Prop} [Decidable p] (hc : ev ts c = some (.bool (decide p))) (ht : p → At E n D ts l (x.wp P Q)) (hf : ¬p → At E n D ts l (y.wp P Q)) : At E n D ts l ((Code.cond c x y).wp P Q) :=
 eD hc (fun h => ht (of_decide_eq_true h)) (fun h => hf (of_decide_eq_false h))
theorem aR {c : Operand} {x y : Code} (hc : ev ts c = some (.bool true)) (h : At E n D ts l (x.wp P Q)) : At E n D ts l ((Code.cond c x y).wp P Q) := fun a w f hw => wp_cond_true (f.eval hc) (h a w f hw)
theorem aj {c : Operand} {x y : Code} (hc : ev ts c = some (.bool false)) (h : At E n D ts l (y.wp P Q)) : At E n D ts l ((Code.cond c x y).wp P Q) := fun a w f hw => wp_cond_false (f.eval hc) (h a w f hw)
theorem nu {p : Nat → Prop} (h : ∃ m, p m) : ∃ m, p m ∧ ∀ k, p k → m ≤ k := by
 obtain ⟨m, hm⟩ := h
 induction m using Nat.strongRecOn with
 | _ m ih =>
  by_cases hlt : ∃ k, k < m ∧ p k
  · obtain ⟨k, hk, hp⟩ := hlt
    exact ih k hk hp
  · exact ⟨m, hm, fun k hk => Nat.le_of_not_lt fun hl => hlt ⟨k, hl, hk⟩⟩
def rf {X : Type} (n : Nat) (D : List Deferred) (E : Env) (T : X → List (Nat × Value)) (L : X → List HP) (I : X → Prop) (μ : X → Nat) (m : Nat) (Q : Exit → Act → World → Prop) : Exit → Act → World → Prop
 | .normal, a, w => ∃ x, I x ∧ μ x < m ∧ Fits n D (T x) a ∧ Holds E w (L x)
 | e, a, w => Q e a w
theorem aT {X : Type} {c : Code} (T : X → List (Nat × Value)) (L : X → List HP) (I : X → Prop) (μ : X → Nat) (x0 : X) (h0 : I x0) (hs : Sub (T x0) ts) (hl : Ent l (L x0))
 (h : ∀ x, I x → At E n D (T x) (L x) (c.wp P (rf n D E T L I μ (μ x) Q))) : At E n D ts l ((Code.loop c).wp P Q) := fun a w f hw => by
 classical
 let J : Act → World → Nat → Prop := fun a w m => ∃ x, I x ∧ μ x = m ∧ Fits n D (T x) a ∧ Holds E w (L x)
 have key : ∀ m a w, J a w m → (Code.loop c).wp P Q a w := by
  intro m a w hJ
  refine wp_loop (fun a w => ∃ m, J a w m) (fun a w => if h : ∃ m, J a w m then Classical.choose (nu h) else 0) ⟨m, hJ⟩ ?_
  intro a w hex
  obtain ⟨hm, hmin⟩ := Classical.choose_spec (nu hex)
  obtain ⟨x, hI, hμ, hf, hH⟩ := hm
  refine Code.wp_mono ?_ (h x hI a w hf hH)
  intro e a' w' hq
  cases e with
  | normal =>
   obtain ⟨x', hI', hlt, hf', hH'⟩ := hq
   have hex' : ∃ m, J a' w' m := ⟨μ x', x', hI', rfl, hf', hH'⟩
   refine ⟨hex', ?_⟩
   rw [dif_pos hex', dif_pos hex]
   refine Nat.lt_of_le_of_lt ((Classical.choose_spec (nu hex')).2 _ ⟨x', hI', rfl, hf', hH'⟩) ?_
   rw [← hμ]; exact hlt
  | _ => exact hq
 exact key (μ x0) a w ⟨x0, h0, rfl, f.sub hs, hw.ent hl⟩
theorem At.round {X : Type} {T : X → List (Nat × Value)} {L : X → List HP} {I : X → Prop} {μ : X → Nat} {m : Nat} (x : X) (hI : I x) (hm : μ x < m) (hs : Sub (T x) ts) (hl : Ent l (L x)) : At E n D ts l (rf n D E T L I μ m Q .normal) :=
 fun _ _ f hw => ⟨x, hI, hm, f.sub hs, hw.ent hl⟩
theorem At.then {K : Act → World → Prop} (h : At E n D ts l K) : At E n D ts l (Exit.then K Q .normal) := h
theorem au {K : Act → World → Prop} {id : Nat} (h : At E n D ts l (Q (.exit id))) : At E n D ts l (Exit.then K Q (.exit id)) := h
theorem aI {K : Act → World → Prop} (h : At E n D ts l (Q .ret)) : At E n D ts l (Exit.then K Q .ret) := h
theorem al {id : Nat} (h : At E n D ts l (Q .normal)) : At E n D ts l (Exit.inBlock id Q .normal) := h
theorem aB {id : Nat} (h : At E n D ts l (Q .ret)) : At E n D ts l (Exit.inBlock id Q .ret) := h
theorem an {id : Nat} (h : At E n D ts l (Q .normal)) : At E n D ts l (Exit.inBlock id Q (.exit id)) := fun a w f hw => by simpa [Exit.inBlock] using h a w f hw
theorem dv {id k : Nat} (hne : Nat.beq k id = false) (h : At E n D ts l (Q (.exit k))) : At E n D ts l (Exit.inBlock id Q (.exit k)) := fun a w f hw => by
 have : k ≠ id := fun e => by subst e; simp at hne
 simpa [Exit.inBlock, this] using h a w f hw
theorem ar {X : Type} {T : X → List (Nat × Value)} {L : X → List HP} {I : X → Prop} {μ : X → Nat} {m id : Nat} (h : At E n D ts l (Q (.exit id))) : At E n D ts l (rf n D E T L I μ m Q (.exit id)) := h
theorem bT {X : Type} {T : X → List (Nat × Value)} {L : X → List HP} {I : X → Prop} {μ : X → Nat} {m : Nat} (h : At E n D ts l (Q .ret)) : At E n D ts l (rf n D E T L I μ m Q .ret) := h
def Does (P : Program) (G : Env → Prop) (f : FuncId) (args : Array Value) (pre : List HP) (R : Value → List HP → Prop) : Prop :=
 ∀ E w fr, G E → Holds E w (pre ++ fr) → Calls P f args w fun e w' => ∃ v m, e = .returned v ∧ R v m ∧ Holds E w' (m ++ fr)
theorem Does.mono {G : Env → Prop} {f : FuncId} {args : Array Value} {pre : List HP} {R R' : Value → List HP → Prop} (h : Does P G f args pre R) (hR : ∀ v m, R v m → ∃ m', R' v m' ∧ Ent m m') : Does P G f args pre R' :=
 fun E w fr hE hw => (h E w fr hE hw).mono fun _ _ ⟨v, m, he, hr, hh⟩ => let ⟨m', hr', hm⟩ := hR v m hr; ⟨v, m', he, hr', hh.ent (hm.append fr)⟩
def Ends (P : Program) (fn : Func) (E : Env) (fr : List HP) (R : Value → List HP → Prop) : Exit → Act → World → Prop :=
 bodyPost P fn fun e w' => ∃ v m, e = .returned v ∧ R v m ∧ Holds E w' (m ++ fr)
def dU : Nat → List Value → List (Nat × Value)
 | _, [] => []
 | i, v :: vs => (i, v) :: dU (i + 1) vs
theorem dN : ∀ (vs : List Value) (i : Nat) (j : Nat) (v : Value), look j (dU i vs) = some v → i ≤ j ∧ vs[j - i]? = some v
 | [], _, _, _, h => by simp [dU, look] at h
 | u :: vs, i, j, v, h => by
  simp only [dU, look] at h
  cases hb : Nat.beq j i with
  | true =>
   rw [hb] at h
   simp at h
   have := Nat.eq_of_beq_eq_true hb
   subst this
   exact ⟨Nat.le_refl _, by simpa using h⟩
  | false =>
   rw [hb] at h
   obtain ⟨h1, h2⟩ := dN vs (i + 1) j v h
   refine ⟨by omega, ?_⟩
   rw [show j - i = (j - (i + 1)) + 1 by omega]
   simpa using h2
theorem Does.body {G : Env → Prop} {f : FuncId} {fn : Func} {c : Code} {args : List Value} {pre : List HP} {R : Value → List HP → Prop} (hf : P.funcs[f]? = some fn) (hb : fn.body = some c) (hn : Nat.ble args.length fn.ntmps = true)
 (h : ∀ E fr, G E → At E fn.ntmps [] (dU 0 args) (pre ++ fr) (c.wp P (Ends P fn E fr R))) : Does P G f args.toArray pre R := by
 intro E w fr hE hw
 refine calls_of_wp hf hb (h E fr hE _ _ ⟨?_, rfl, ?_⟩ hw)
 · have := Nat.le_of_ble_eq_true hn
   simp; omega
 · intro i v hi
   obtain ⟨_, h2⟩ := dN args 0 i v hi
   rw [Nat.sub_zero] at h2
   have hlt : i < args.length := (List.getElem?_eq_some_iff.1 h2).1
   simp [Array.getElem?_append, hlt, (List.getElem?_eq_some_iff.1 h2).2]
theorem aZ {fn : Func} {fr : List HP} {R : Value → List HP → Prop} (m : List HP) (hr : fn.results = #[]) (hR : R (.tuple #[]) m) (hm : Ent l (m ++ fr)) : At E n [] ts l (Ends P fn E fr R .normal) := fun _ _ f hw =>
 ⟨f.defers, _, results_none hr _ _ _, _, m, rfl, hR, hw.ent hm⟩
theorem vQ {fn : Func} {fr : List HP} {R : Value → List HP → Prop} (m : List HP) (hr : fn.results = #[]) (hR : R (.tuple #[]) m) (hm : Ent l (m ++ fr)) : At E n [] ts l (Ends P fn E fr R .ret) := fun _ _ f hw =>
 ⟨f.defers, _, results_none hr _ _ _, _, m, rfl, hR, hw.ent hm⟩
theorem gx {a : Act} {i : Nat} {v : Value} (h : a.tmps[i]? = some v) : a.tmps.getD i undef = v := by simp [h]
theorem aA {fn : Func} {fr : List HP} {R : Value → List HP → Prop} {i : Nat} {v : Value} (m : List HP) (hr : fn.results = #[.tmp i]) (hv : look i ts = some v) (hR : R v m) (hm : Ent l (m ++ fr)) : At E n [] ts l (Ends P fn E fr R .ret) := fun _ _ f hw =>
 ⟨f.defers, v, by rw [results_tmp hr, gx (f.get i v hv)], _, m, rfl, hR, hw.ent hm⟩
theorem dd {fn : Func} {fr : List HP} {R : Value → List HP → Prop} {i j : Nat} {u v : Value} (m : List HP) (hr : fn.results = #[.tmp i, .tmp j]) (hu : look i ts = some u) (hv : look j ts = some v) (hR : R (.tuple #[u, v]) m) (hm : Ent l (m ++ fr)) : At E n [] ts l (Ends P fn E fr R .ret) := fun _ _ f hw =>
 ⟨f.defers, _, by rw [results_tmp2 hr, gx (f.get i u hu), gx (f.get j v hv)], _, m, rfl, hR, hw.ent hm⟩
theorem qF {fn : Func} {i j k : Tmp} (h : fn.results = #[.tmp i, .tmp j, .tmp k]) (tmps : Array Value) (P : Program) (w : World) :
 (results fn tmps).run P w = .ok (.tuple #[tmps.getD i undef, tmps.getD j undef, tmps.getD k undef]) w := by
 simp [results, h]
theorem fW {fn : Func} {fr : List HP} {R : Value → List HP → Prop} {i j k : Nat} {u v x : Value} (m : List HP) (hr : fn.results = #[.tmp i, .tmp j, .tmp k]) (hu : look i ts = some u) (hv : look j ts = some v) (hx : look k ts = some x) (hR : R (.tuple #[u, v, x]) m) (hm : Ent l (m ++ fr)) : At E n [] ts l (Ends P fn E fr R .ret) := fun _ _ f hw =>
 ⟨f.defers, _, by rw [qF hr, gx (f.get i u hu), gx (f.get j v hv), gx (f.get k x hx)], _, m, rfl, hR, hw.ent hm⟩
def ou (ts : List (Nat × Value)) : List Operand → Option (List Value)
 | [] => some []
 | x :: xs => match ev ts x, ou ts xs with
  | some v, some vs => some (v :: vs)
  | _, _ => none
theorem cF {a : Act} (k : Knows ts a) : ∀ {xs : List Operand} {vs : List Value}, ou ts xs = some vs → xs.map a.eval = vs
 | [], vs, h => by simp [ou] at h; subst h; rfl
 | x :: xs, vs, h => by
  simp only [ou] at h
  split at h
  · rename_i v vs' h1 h2
    injection h with h
    subst h
    simp [k.eval h1, cF k h2]
  · cases h
def eA (P : Program) (f : FuncId) : Bool := match P.funcs[f]? with
 | some fn => fn.body.isSome && !(fn.name == "runtime.NumGoroutine")
 | none => false
theorem cN {f : FuncId} (hb : eA P f = true) (args : Array Value) (w : World) : (callFunc f args).run P w = .ok (.enter f args) w := by
 unfold eA at hb
 split at hb
 · rename_i fn hf
   simp only [Bool.and_eq_true, Bool.not_eq_true'] at hb
   unfold callFunc
   simp only [Sem.run_bind, run_program, Result.andThen_ok, hf]
   rw [hb.2]
   simp only [Bool.false_eq_true, if_false]
   have : fn.body.isNone = false := by cases h : fn.body <;> simp_all
   rw [this]
   rfl
 · cases hb
theorem nh {G : Env → Prop} {o : Oper} {f : FuncId} {args : Array Value} {pre fr : List HP} {R : Value → List HP → Prop} {K : Act → World → Prop} {a : Act} {w : World} (hr : (execOp a.eval o).run P w = .ok (.enter f args) w) (hE : G E) (hs : Does P G f args pre R) (hw : Holds E w (pre ++ fr))
 (hk : ∀ v m w', R v m → Holds E w' (m ++ fr) → K (a.put o.dst v) w') : o.wp P a w K Q := by
 unfold Oper.wp
 rw [hr]
 refine (hs E w fr hE hw).mono fun e w' ⟨v, m, he, hR, hm⟩ => ?_
 subst he
 exact hk v m w' hR hm
theorem ah {G : Env → Prop} {i : Nat} {ty : TypeId} {pos : String} {af : Array Edge} {g : Option (Nat × Bool)} {f : FuncId} {xs : List Operand} {at_ : Array TypeId} {args : List Value} {pre fr : List HP} {R : Value → List HP → Prop} {K : Act → World → Prop} (hi : Nat.blt i n = true)
 (hb : eA P f = true) (hx : ou ts xs = some args) (hE : G E) (hs : Does P G f args.toArray pre R) (hl : Ent l (pre ++ fr)) (h : ∀ v m, R v m → At E n D ((i, v) :: ts) (m ++ fr) K) :
 At E n D ts l (fun a w => (Oper.mk (some i) (.call { callee := .value (.func f), args := xs.toArray, argTypes := at_ }) ty pos af g).wp P a w K Q) := fun a w ft hw => by
 refine nh (f := f) (args := args.toArray) ?_ hE hs (hw.ent hl) fun v m w' hR hm => h v m hR _ w' (ft.put i (Nat.le_of_ble_eq_true hi) v) hm
 have := cF ft.knows hx
 simp [execOp, resolve, Deferred.ofValue, Act.eval, invoke, this, cN hb]
theorem jO {G : Env → Prop} {i : Nat} {ty : TypeId} {pos : String} {af : Array Edge} {g : Option (Nat × Bool)} {x : Operand} {f : FuncId} {first captured : Array Value} {xs : List Operand} {at_ : Array TypeId} {args : List Value} {pre fr : List HP} {R : Value → List HP → Prop} {K : Act → World → Prop} (hi : Nat.blt i n = true)
 (hv : ev ts x = some (.func (.func f) first captured)) (hb : eA P f = true) (hx : ou ts xs = some args) (hE : G E) (hs : Does P G f (first ++ args.toArray ++ captured) pre R) (hl : Ent l (pre ++ fr)) (h : ∀ v m, R v m → At E n D ((i, v) :: ts) (m ++ fr) K) :
 At E n D ts l (fun a w => (Oper.mk (some i) (.call { callee := .value x, args := xs.toArray, argTypes := at_ }) ty pos af g).wp P a w K Q) := fun a w ft hw => by
 refine nh (f := f) (args := first ++ args.toArray ++ captured) ?_ hE hs (hw.ent hl) fun v m w' hR hm => h v m hR _ w' (ft.put i (Nat.le_of_ble_eq_true hi) v) hm
 have := cF ft.knows hx
 simp [execOp, resolve, Deferred.ofValue, ft.eval hv, invoke, this, cN hb]
end
end Go.SL
