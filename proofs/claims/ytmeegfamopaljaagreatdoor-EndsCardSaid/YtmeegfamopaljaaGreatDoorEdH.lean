/- Regions that draw their order: operations that look go ahead of all, each with what it rests on; that must stand behind each operation that may run before it. -/
import Derived.Test.YtmeegfamopaljaaGreatDoorEdG
import Derived.KernelRfl
import Derived.Test.YtmeegfamopaljaaGreatDoorChecked
import Derived.WalkKit
import Derived.WalkLawsBesides
import Derived.WalkSpells
import Derived.Outline
import Derived.BigQuiet
import Derived.Deep.QuietTactic
import Derived.Deep.Draws
import Derived.RegionTactic
import Derived.ChangeAlike
import Derived.Below
import Derived.Lib.Hide
import Derived.WalkSmall
import Derived.Laws.OwnMore
import Derived.Laws.Rows
import Derived.Test.YtmeegfamopaljaaGreatDoorEdA
import Derived.Maps.AppendAt
import Derived.OwnWalk
import Derived.Laws.BitsAllLaws
import Derived.Shelf.Spec.TrailingZeros
namespace Go.SL
open Go Go.RowKit
section
variable {P : Program} {ops : Array Oper} {Q : Exit → Act → World → Prop}
def gu (ops : Array Oper) (j i : Nat) : Bool :=
 match ops[j]? with
 | some o => o.after.any fun e => Region.binds .any e && e.on == i
 | none => false
def Sure (P : Program) (ops : Array Oper) (o : Oper) (v : Value) (φ : World → Prop) (a : Act) : Prop :=
 (Region.wanted o (yielded ops a.tmps) = true ∧ ∀ w, φ w → (execOp a.eval o).run P w = .ok (.value v) w) ∨ (Region.wanted o (yielded ops a.tmps) = false ∧ v = undef)
theorem Sure.wpOp {i : Nat} {o : Oper} {v : Value} {φ : World → Prop} {a : Act} (hi : ops[i]? = some o) (hy : Sure P ops o v φ a) {K : Act → World → Prop} {w : World} (hw : φ w) (h : K (a.put o.dst v) w) : wpOp P ops Q i K a w := by
 unfold Go.wpOp
 simp only [hi]
 rcases hy with ⟨h1, hv⟩ | ⟨h1, rfl⟩
 · simp only [h1, if_true, Oper.wp, hv w hw, Oper.upon]; exact .inl h
 · simp only [h1, Bool.false_eq_true, if_false]; exact h
theorem r9 {j : Nat} {oi oj : Oper} (hj : ops[j]? = some oj) (hap : oi.apart ops oj = true) (hsi : ∀ cs b, oi.op ≠ .select cs b) {K : Act → World → Prop} {a : Act} {w : World} (h : wpOp P ops Q j K a w) :
 wpOp P ops Q j (fun a' w' => K a' w' ∧ execOp a'.eval oi = execOp a.eval oi ∧ Region.wanted oi (yielded ops a'.tmps) = Region.wanted oi (yielded ops a.tmps)) a w := by
 obtain ⟨_, _, h3⟩ := Oper.apart_spec hap
 have keep : ∀ (b : Act) (u : Value), b.tmps = a.tmps → execOp (b.put oj.dst u).eval oi = execOp a.eval oi ∧ Region.wanted oi (yielded ops (b.put oj.dst u).tmps) = Region.wanted oi (yielded ops a.tmps) := fun b u hb => by
  have e1 := execOp_put (ops := ops) oi hsi b oj.dst u h3
  have e2 := wanted_put (ops := ops) oi b oj.dst u h3
  have e3 : b.eval = a.eval := by funext x; cases x <;> simp [Act.eval, hb]
  rw [e1, e2, e3, hb]
  exact ⟨rfl, rfl⟩
 unfold wpOp at *
 simp only [hj] at *
 split
 · rename_i hw
   simp only [hw, if_true] at h
   rcases h with h | h
   · refine .inl ?_
     unfold Oper.wp at *
     generalize (execOp a.eval oj).run P w = r at *
     cases r with
     | ok n w' =>
      cases n <;> simp only [Oper.upon] at h ⊢ <;> first
       | exact ⟨h, keep a _ rfl⟩
       | exact ⟨h, keep { a with defers := _ } _ rfl⟩
       | exact Calls.mono h (fun e w'' he => by cases e <;> first | exact ⟨he, keep a _ rfl⟩ | exact he)
       | exact Rows.mono h (fun v w'' he => ⟨he, keep a _ rfl⟩)
     | halt x w' => cases x <;> simp only [Oper.upon] at h ⊢ <;> exact h
   · exact .inr h
 · rename_i hw
   simp only [hw] at h
   exact ⟨h, keep a _ rfl⟩
def eL (P : Program) (ops : Array Oper) (Q : Exit → Act → World → Prop) : Nat → Array Bool → List (Nat × (World → Prop)) → Act → World → Prop
 | 0, listed, _, a, w => Region.ready .any ops listed = [] ∧ Q .normal a w
 | fuel + 1, listed, S, a, w =>
  (Region.ready .any ops listed = [] → Q .normal a w) ∧
  ∀ j ∈ Region.ready .any ops listed, wpOp P ops Q j (fun a' w' => (∀ p ∈ S, gu ops j p.1 = false → p.2 w') ∧ eL P ops Q fuel (listed.setIfInBounds j true) (S.filter fun p => !gu ops j p.1) a' w') a w
theorem nL : ∀ (fuel : Nat) (listed : Array Bool) (S : List (Nat × (World → Prop))) (a : Act) (w : World), eL P ops Q fuel listed S a w → wpAny P .any ops Q fuel listed a w
 | 0, _, _, _, _, h => h
 | fuel + 1, _listed, _S, _a, _w, h => ⟨h.1, fun j hj => wpOp_mono (fun a' w' h' => nL fuel _ _ a' w' h'.2) (h.2 j hj)⟩
theorem mf : ∀ (fuel : Nat) (listed : Array Bool) (S S' : List (Nat × (World → Prop))) (a : Act) (w : World), (∀ p ∈ S', p ∈ S) → eL P ops Q fuel listed S a w → eL P ops Q fuel listed S' a w
 | 0, _, _, _, _, _, _, h => h
 | fuel + 1, listed, S, S', a, w, hs, h => ⟨h.1, fun j hj => wpOp_mono (fun a' w' ⟨h1, h2⟩ => ⟨fun p hp => h1 p (hs p hp), mf fuel _ _ _ a' w' (fun p hp => by
  obtain ⟨h3, h4⟩ := List.mem_filter.1 hp
  exact List.mem_filter.2 ⟨hs p h3, h4⟩) h2⟩) (h.2 j hj)⟩
theorem nM : ∀ (fuel : Nat) (listed : Array Bool) (S S' : List (Nat × (World → Prop))) (a : Act) (w : World), (∀ p ∈ S', p ∈ S ∨ ∀ w, p.2 w) → eL P ops Q fuel listed S a w → eL P ops Q fuel listed S' a w
 | 0, _, _, _, _, _, _, h => h
 | fuel + 1, listed, S, S', a, w, hs, h => ⟨h.1, fun j hj => wpOp_mono (fun a' w' ⟨h1, h2⟩ => ⟨fun p hp hn => (hs p hp).elim (fun h => h1 p h hn) (fun h => h w'), nM fuel _ _ _ a' w' (fun p hp => by
  obtain ⟨h3, h4⟩ := List.mem_filter.1 hp
  exact (hs p h3).imp_left fun h => List.mem_filter.2 ⟨h, h4⟩) h2⟩) (h.2 j hj)⟩
theorem jC (fuel : Nat) (listed : Array Bool) (S : List (Nat × (World → Prop))) (i : Nat) (a : Act) (w : World) (h : eL P ops Q fuel listed S a w) : eL P ops Q fuel listed ((i, Any) :: S) a w :=
 nM fuel listed S _ a w (fun p hp => by
  rcases List.mem_cons.1 hp with rfl | hp
  · exact .inr fun _ => trivial
  · exact .inl hp) h
theorem f9 {i : Nat} {oi : Oper} {v : Value} {φ : World → Prop} (hi : ops[i]? = some oi) (hsel : ∀ (j : Nat) (o : Oper) cs b, ops[j]? = some o → o.op ≠ .select cs b)
 (hQ : ∀ c a w, Q (.panic c) (a.put oi.dst v) w → Q (.panic c) a w) :
 ∀ (fuel : Nat) (listed : Array Bool) (S : List (Nat × (World → Prop))) (a : Act) (w : World),
  (∀ j oj, ops[j]? = some oj → j ≠ i → listed.getD j true = false → (∀ e ∈ oj.after, Region.binds .any e = true → e.on ≠ i) → oi.apart ops oj = true) →
  i ∈ Region.ready .any ops listed → Sure P ops oi v φ a → φ w → (∀ p ∈ S, p.2 w) →
  eL P ops Q fuel (listed.setIfInBounds i true) ((i, φ) :: S) (a.put oi.dst v) w → eL P ops Q (fuel + 1) listed S a w := by
 intro fuel
 induction fuel with
 | zero =>
  intro listed S a w _ hr hy hφ hS H
  refine ⟨fun h => (by rw [h] at hr; cases hr), fun j hj => ?_⟩
  by_cases hji : j = i
  · subst hji
    exact hy.wpOp hi hφ ⟨fun p hp _ => hS p hp, H⟩
  · have := ready_mono hj hji
    rw [H.1] at this
    cases this
 | succ fuel ih =>
  intro listed S a w hfree hr hy hφ hS H
  refine ⟨fun h => (by rw [h] at hr; cases hr), fun j hj => ?_⟩
  by_cases hji : j = i
  · subst hji
    exact hy.wpOp hi hφ ⟨fun p hp _ => hS p hp, mf _ _ _ _ _ _ (fun p hp => List.mem_cons_of_mem _ (List.mem_filter.1 hp).1) H⟩
  · have h1 := H.2 j (ready_mono hj hji)
    obtain ⟨hjun, oj, hoj, hall⟩ := mem_ready.1 hj
    have hnot : ∀ e ∈ oj.after, Region.binds .any e = true → e.on ≠ i := fun e he hb heq => by
     have h1 := hall e he hb
     have h0 := (mem_ready.1 hr).1
     rw [heq] at h1
     rcases Nat.lt_or_ge i listed.size with h' | h'
     · simp [h'] at h0 h1; rw [h0] at h1; cases h1
     · simp [Array.getElem?_eq_none h'] at h1
    have hap := hfree j oj hoj hji hjun hnot
    have hw : gu ops j i = false := by
     unfold gu
     rw [hoj]
     simp only [Array.any_eq_false]
     intro k hk
     simp only [Bool.and_eq_true, beq_iff_eq, not_and]
     exact fun hb => hnot _ (Array.getElem_mem hk) hb
    let fake : Oper := ⟨oi.dst, .move (.const v), 0, "", #[], none⟩
    have hfake : Yields P ops fake v a := .inl ⟨rfl, fun w => by simp [fake, execOp, Act.eval]⟩
    have hapf : fake.apart ops oj = true := by
     simp only [Oper.apart, Bool.and_eq_true] at hap ⊢
     refine ⟨hap.1, ?_⟩
     cases oj.dst <;> simp [fake, Oper.looksAt, Op.operands]
    have h2 := wpOp_put (oi := fake) hoj hapf (fun cs b => by simp [fake]) (fun cs b => hsel j oj cs b hoj) hQ hfake h1
    have h3 := r9 (oi := oi) hoj hap (fun cs b => hsel i oi cs b hi) h2
    have hfree' : ∀ k ok, ops[k]? = some ok → k ≠ i → (listed.setIfInBounds j true).getD k true = false →
     (∀ e ∈ ok.after, Region.binds .any e = true → e.on ≠ i) → oi.apart ops ok = true := fun k ok hk hki hun hno => by
     refine hfree k ok hk hki ?_ hno
     by_cases hjk : j = k
     · subst hjk; exact hjun
     · rw [getD_set_ne true hjk] at hun; exact hun
    refine wpOp_mono (fun a' w' ⟨⟨_, h5, h6⟩, h7, h8⟩ => ⟨fun p hp hwp => h5 p (List.mem_cons_of_mem _ hp) hwp, ?_⟩) h3
    refine ih (listed.setIfInBounds j true) _ a' w' hfree' (ready_mono hr (Ne.symm hji)) ?_ (h5 (i, φ) (List.mem_cons_self ..) hw) ?_ ?_
    · unfold Sure at hy ⊢
      rw [h7, h8]; exact hy
    · intro p hp
      obtain ⟨h9, h10⟩ := List.mem_filter.1 hp
      exact h5 p (List.mem_cons_of_mem _ h9) (by simpa using h10)
    · rw [Array.setIfInBounds_comm _ _ hji]
      simp only [List.filter_cons, hw, Bool.not_false, if_true] at h6
      exact h6
def Kept (E : Env) (l : List HP) : List (Nat × (World → Prop)) → Prop
 | [] => True
 | p :: S => (∀ w, Holds E w l → p.2 w) ∧ Kept E l S
theorem Kept.nil {E : Env} {l : List HP} : Kept E l [] := trivial
theorem Kept.cons {E : Env} {l : List HP} {i : Nat} {φ : World → Prop} {S : List (Nat × (World → Prop))} (h : ∀ w, Holds E w l → φ w) (k : Kept E l S) : Kept E l ((i, φ) :: S) := ⟨h, k⟩
theorem Kept.all {E : Env} {l : List HP} : ∀ {S : List (Nat × (World → Prop))}, Kept E l S → ∀ {w : World}, Holds E w l → ∀ p ∈ S, p.2 w
 | [], _, _, _, p, hp => by cases hp
 | q :: S, ⟨h1, h2⟩, w, hw, p, hp => by
  rcases List.mem_cons.1 hp with rfl | hp
  · exact h1 w hw
  · exact Kept.all h2 hw p hp
def eK (P : Program) (ops : Array Oper) (Q : Exit → Act → World → Prop) (fuel : Nat) (listed : Array Bool) (S : List (Nat × (World → Prop))) (a : Act) (w : World) : Prop :=
 (∀ p ∈ S, p.2 w) → eL P ops Q fuel listed S a w
section
variable {E : Env} {n : Nat} {D : List Deferred} {ts : List (Nat × Value)} {l : List HP} {fuel : Nat} {listed : Array Bool} {S : List (Nat × (World → Prop))}
def bm (Q : Exit → Act → World → Prop) : Exit → Act → World → Prop
 | .panic _, _, _ => False
 | e, a, w => Q e a w
theorem Dr.start {id : Nat} {os : List Oper} (hm : P.follows .mixedOrders = true) (h : At E n D ts l (eK P os.toArray (bm Q) os.length (Array.replicate os.length false) [])) : At E n D ts l ((Code.region id os.toArray true).wp P Q) := fun a w f hw => by
 refine wp_mono (Q := bm Q) (wp_region_any hm ?_) fun e a w h => by cases e <;> first | exact h | exact h.elim
 simp only [List.size_toArray]
 exact nL _ _ _ _ _ (h a _ ⟨f.size, f.defers, f.get⟩ (hw.drawn _) (fun p hp => by cases hp))
theorem Dr.take (i : Nat) {d : Nat} {op : Op} {ty : TypeId} {pos : String} {af : Array Edge} {v : Value} {φ : World → Prop} (hs : Region.noSelect ops = true) (hi : ops[i]? = some ⟨some d, op, ty, pos, af, none⟩) (hd : Nat.blt d n = true)
 (hr : (Region.ready .any ops listed).contains i = true) (hf : Region.free .any ops listed i = true) (hev : Ev P ts op v φ) (hφ : ∀ w, Holds E w l → φ w)
 (h : At E n D ((d, v) :: ts) l (eK P ops (bm Q) fuel (listed.setIfInBounds i true) ((i, φ) :: S))) : At E n D ts l (eK P ops (bm Q) (fuel + 1) listed S) := fun a w f hw hS =>
 f9 hi (Region.noSelect_spec hs) (fun _ _ _ h => h.elim) fuel listed S a w (Region.free_spec hi hf) (by simpa using hr) (.inl ⟨rfl, fun w hw => hev a w _ _ _ _ _ f.knows hw⟩) (hφ w hw) hS
  (h _ w (f.put d (Nat.le_of_ble_eq_true hd) v) hw (fun p hp => by
   rcases List.mem_cons.1 hp with rfl | hp
   · exact hφ w hw
   · exact hS p hp))
theorem Dr.pure (i : Nat) {d : Nat} {op : Op} {ty : TypeId} {pos : String} {af : Array Edge} {v : Value} (hs : Region.noSelect ops = true) (hi : ops[i]? = some ⟨some d, op, ty, pos, af, none⟩) (hd : Nat.blt d n = true)
 (hr : (Region.ready .any ops listed).contains i = true) (hf : Region.free .any ops listed i = true) (hev : Ev P ts op v Any)
 (h : At E n D ((d, v) :: ts) l (eK P ops (bm Q) fuel (listed.setIfInBounds i true) S)) : At E n D ts l (eK P ops (bm Q) (fuel + 1) listed S) := fun a w f hw hS => by
 have hS' : ∀ p ∈ (i, Any) :: S, p.2 w := fun p hp => by
  rcases List.mem_cons.1 hp with rfl | hp
  · trivial
  · exact hS p hp
 refine f9 hi (Region.noSelect_spec hs) (fun _ _ _ h => h.elim) fuel listed S a w (Region.free_spec hi hf) (by simpa using hr) (.inl ⟨rfl, fun w hw => hev a w _ _ _ _ _ f.knows hw⟩) trivial hS ?_
 exact jC fuel _ S i _ w (h _ w (f.put d (Nat.le_of_ble_eq_true hd) v) hw hS)
theorem Dr.on (i : Nat) {_o : Oper} {op : Op} {ty : TypeId} {pos : String} {af : Array Edge} {d j t : Nat} {b : Bool} {v : Value} {φ : World → Prop} (hs : Region.noSelect ops = true) (hi : ops[i]? = some ⟨some d, op, ty, pos, af, some (j, b)⟩) (hd : Nat.blt d n = true) (ht : (ops[j]?).bind (·.dst) = some t) (hv : look t ts = some (.bool b))
 (hr : (Region.ready .any ops listed).contains i = true) (hf : Region.free .any ops listed i = true) (hev : Ev P ts op v φ) (hφ : ∀ w, Holds E w l → φ w)
 (h : At E n D ((d, v) :: ts) l (eK P ops (bm Q) fuel (listed.setIfInBounds i true) ((i, φ) :: S))) : At E n D ts l (eK P ops (bm Q) (fuel + 1) listed S) := fun a w f hw hS =>
 f9 hi (Region.noSelect_spec hs) (fun _ _ _ h => h.elim) fuel listed S a w (Region.free_spec hi hf) (by simpa using hr) (.inl ⟨by simp [Region.wanted, yielded, ht, f.get t _ hv], fun w hw => hev a w _ _ _ _ _ f.knows hw⟩) (hφ w hw) hS
  (h _ w (f.put d (Nat.le_of_ble_eq_true hd) v) hw (fun p hp => by
   rcases List.mem_cons.1 hp with rfl | hp
   · exact hφ w hw
   · exact hS p hp))
theorem Dr.run (j : Nat) {o : Oper} (hi : ops[j]? = some o) (hg : o.guard = none) (hr : Region.ready .any ops listed = [j])
 (h : At E n D ts l (fun a w => o.wp P a w (fun a' w' => (∀ p ∈ S, gu ops j p.1 = false → p.2 w') ∧ eL P ops (bm Q) fuel (listed.setIfInBounds j true) (S.filter fun p => !gu ops j p.1) a' w') (bm Q))) :
 At E n D ts l (eK P ops (bm Q) (fuel + 1) listed S) := fun a w f hw _ => by
 refine ⟨fun h0 => (by rw [h0] at hr; cases hr), ?_⟩
 rw [hr]
 intro k hk
 simp at hk
 subst hk
 unfold wpOp
 simp only [hi, Region.wanted, hg, if_true]
 exact .inl (h a w f hw)
theorem gz (j k : Nat) {o u : Oper} (hi : ops[j]? = some o) (hg : o.guard = none) (hk : ops[k]? = some u) (hu : u.guard = none) (hr : Region.ready .any ops listed = [j, k])
 (h : At E n D ts l (fun a w => o.wp P a w (fun a' w' => (∀ p ∈ S, gu ops j p.1 = false → p.2 w') ∧ eL P ops (bm Q) fuel (listed.setIfInBounds j true) (S.filter fun p => !gu ops j p.1) a' w') (bm Q)))
 (h' : At E n D ts l (fun a w => u.wp P a w (fun a' w' => (∀ p ∈ S, gu ops k p.1 = false → p.2 w') ∧ eL P ops (bm Q) fuel (listed.setIfInBounds k true) (S.filter fun p => !gu ops k p.1) a' w') (bm Q))) :
 At E n D ts l (eK P ops (bm Q) (fuel + 1) listed S) := fun a w f hw _ => by
 refine ⟨fun h0 => (by rw [h0] at hr; cases hr), ?_⟩
 rw [hr]
 intro x hx
 simp at hx
 unfold wpOp
 rcases hx with rfl | rfl
 · simp only [hi, Region.wanted, hg, if_true]
   exact .inl (h a w f hw)
 · simp only [hk, Region.wanted, hu, if_true]
   exact .inl (h' a w f hw)
def pick : List Bool → List (Nat × (World → Prop)) → List (Nat × (World → Prop))
 | true :: m, p :: S => p :: pick m S
 | false :: m, _ :: S => pick m S
 | _, _ => []
theorem jD {f : Nat → Bool} : ∀ {S : List (Nat × (World → Prop))} {fj : List Bool}, (S.map fun p => f p.1) = fj → (S.filter fun p => f p.1) = pick fj S
 | [], fj, h => by subst h; rfl
 | p :: S, fj, h => by
  subst h
  simp only [List.map_cons, List.filter_cons]
  cases hf : f p.1 with
  | true => simp only [if_true, pick]; rw [jD rfl]
  | false => simp only [Bool.false_eq_true, if_false, pick]; rw [jD rfl]
theorem Dr.kept {j : Nat} (fj : List Bool) (hm : (S.map fun p => !gu ops j p.1) = fj) (hk : Kept E l (pick fj S)) (h : At E n D ts l (eK P ops (bm Q) fuel (listed.setIfInBounds j true) (pick fj S))) :
 At E n D ts l (fun a' w' => (∀ p ∈ S, gu ops j p.1 = false → p.2 w') ∧ eL P ops (bm Q) fuel (listed.setIfInBounds j true) (S.filter fun p => !gu ops j p.1) a' w') := fun a w f hw => by
 have hS := jD (f := fun i => !gu ops j i) hm
 rw [hS]
 have := hk.all hw
 refine ⟨fun p hp hn => this p ?_, h a w f hw this⟩
 rw [← hS]
 exact List.mem_filter.2 ⟨hp, by simp [hn]⟩
theorem Dr.done (hr : Region.ready .any ops listed = []) (h : At E n D ts l (Q .normal)) : At E n D ts l (eK P ops (bm Q) fuel listed S) := fun a w f hw _ => by
 cases fuel with
 | zero => exact ⟨hr, h a w f hw⟩
 | succ m => exact ⟨fun _ => h a w f hw, by rw [hr]; simp⟩
end
end
end Go.SL

namespace Go.SL
open Go Go.RowKit
section
variable {P : Program} {E : Env} {n : Nat} {D : List Deferred} {ts : List (Nat × Value)} {l : List HP} {ops : Array Oper} {Q : Exit → Act → World → Prop} {rest : List Oper} {i : Nat} {ty : TypeId} {pos : String} {af : Array Edge}
theorem ay {fr : List HP} {K : Act → World → Prop} (h : At E n D ts fr K) : At E n D ts ([] ++ fr) K := h
theorem ai {p : HP} {fr : List HP} {K : Act → World → Prop} (h : At E n D ts (p :: fr) K) : At E n D ts ([p] ++ fr) K := h
theorem aF {p q : HP} {fr : List HP} {K : Act → World → Prop} (h : At E n D ts (p :: q :: fr) K) : At E n D ts ([p, q] ++ fr) K := h
theorem cu {p q r : HP} {fr : List HP} {K : Act → World → Prop} (h : At E n D ts (p :: q :: r :: fr) K) : At E n D ts ([p, q, r] ++ fr) K := h
theorem dj {p q r s : HP} {fr : List HP} {K : Act → World → Prop} (h : At E n D ts (p :: q :: r :: s :: fr) K) : At E n D ts ([p, q, r, s] ++ fr) K := h
theorem bV {p q r s t : HP} {fr : List HP} {K : Act → World → Prop} (h : At E n D ts (p :: q :: r :: s :: t :: fr) K) : At E n D ts ([p, q, r, s, t] ++ fr) K := h
theorem L.mv {x : Operand} {v : Value} (hi : Nat.blt i n = true) (hx : ev ts x = some v) (h : At E n D ((i, v) :: ts) l (wpList P ops Q rest)) : At E n D ts l (wpList P ops Q (⟨some i, .move x, ty, pos, af, none⟩ :: rest)) := L.pure hi (ag hx) h
theorem L.as {x : Operand} {v : Value} (hi : Nat.blt i n = true) (hx : ev ts x = some v) (h : At E n D ((i, v) :: ts) l (wpList P ops Q rest)) : At E n D ts l (wpList P ops Q (⟨some i, .assign x, ty, pos, af, none⟩ :: rest)) := L.pure hi (az hx) h
theorem aN {x : Operand} {p : Addr} (hi : Nat.blt i n = true) (hx : ev ts x = some (.pointer (some p))) (h : At E n D ((i, .pointer (some p)) :: ts) l (wpList P ops Q rest)) : At E n D ts l (wpList P ops Q (⟨some i, .nilCheck x, ty, pos, af, none⟩ :: rest)) := L.pure hi (aq hx) h
theorem aE (off : Nat) {s : TypeId} {x : Operand} {j b o : Nat} (hi : Nat.blt i n = true) (hf : kZ P s j = some off) (hx : ev ts x = some (.pointer (some ⟨b, o, none⟩))) (h : At E n D ((i, .pointer (some ⟨b, o + off, none⟩)) :: ts) l (wpList P ops Q rest)) :
 At E n D ts l (wpList P ops Q (⟨some i, .fieldAddr s x j, ty, pos, af, none⟩ :: rest)) := L.pure hi (ab hf hx) h
theorem aX {t tb : TypeId} {x : Operand} {b o : Nat} {cs : Array Value} {fz : Nat × Nat} {r : List HP} {v : Value} [hh : Has b l (.cells cs tb fz) r] (hi : Nat.blt i n = true) (hd : iu P t = some false) (hx : ev ts x = some (.pointer (some ⟨b, o, none⟩))) (hv : cs[o]? = some v)
 (h : At E n D ((i, v) :: ts) l (wpList P ops Q rest)) : At E n D ts l (wpList P ops Q (⟨some i, .load t x, ty, pos, af, none⟩ :: rest)) := L.val hi (aa hd hx) (ae hv) h
theorem L.st {t tb : TypeId} {x y : Operand} {b o : Nat} {cs : Array Value} {r : List HP} {v : Value} [hh : Has b l (.cells cs tb) r] (hz : bZ P t 1) (hx : ev ts x = some (.pointer (some ⟨b, o, none⟩))) (hy : ev ts y = some v) (hv : v.oneCell' = true) (hi : o < cs.size)
 (h : At E n D ts (blk b tb (cs.setIfInBounds o v) :: r) (wpList P ops Q rest)) : At E n D ts l (wpList P ops Q (⟨none, .store t x y, ty, pos, af, none⟩ :: rest)) := L.op rfl (bC rfl hz hx hy hv hi h)
theorem aU {x : Operand} {vs : Array Value} {k : Nat} {v : Value} (hx : ev ts x = some (.tuple vs)) (hv : vs[k]? = some v) : Ev P ts (.extract x k) v Any := by
 intro a w _ _ _ _ _ kn _
 simp [execOp, kn.eval hx, Instr.extract, hv]
theorem L.ex {x : Operand} {vs : Array Value} {k : Nat} {v : Value} (hi : Nat.blt i n = true) (hx : ev ts x = some (.tuple vs)) (hv : vs[k]? = some v) (h : At E n D ((i, v) :: ts) l (wpList P ops Q rest)) : At E n D ts l (wpList P ops Q (⟨some i, .extract x k, ty, pos, af, none⟩ :: rest)) := L.pure hi (aU hx hv) h
theorem aP {t t' : TypeId} {x : Operand} {p : Option Addr} {m c : Nat} (ht : P.underlying t = some (.slice t')) (hx : ev ts x = some (.slice p m c)) : Ev P ts (.call { callee := .builtin .len, args := #[x], argTypes := #[t] }) (.int .i64 m) Any := by
 intro a w _ _ _ _ _ kn _
 simp [execOp, resolve, invoke, builtin, Builtin.len_, kn.eval hx, run_underlying ht, goInt]
theorem cG {t : TypeId} {d : TypeDesc} {x : Operand} {v : Value} (ht : P.underlying t = some d) (hd : (match d with | .interface _ => true | _ => false) = false) (hx : ev ts x = some v) : Ev P ts (.makeInterface t x) (.iface t v) Any := by
 intro a w _ _ _ _ _ kn _
 simp only [execOp, kn.eval hx, Instr.makeInterface, Sem.run_bind, run_underlying ht, Result.andThen_ok]
 cases d <;> simp_all
theorem ea {fn : Fn} {xs ys : List Operand} {us vs : List Value} (hx : ou ts xs = some us) (hy : ou ts ys = some vs) : Ev P ts (.makeFunc fn xs.toArray ys.toArray) (.func fn us.toArray vs.toArray) Any := by
 intro a w _ _ _ _ _ kn _
 simp [execOp, Instr.makeFunc, cF kn hx, cF kn hy]
theorem cT {x : Int} (h : -9223372036854775808 ≤ x ∧ x ≤ 9223372036854775807) : IntKind.i64.wrap x = x := IntWalk.i64_in x h
theorem wu64 {x : Int} (h : 0 ≤ x ∧ x ≤ 18446744073709551615) : IntKind.u64.wrap x = x := IntWalk.u64_in x h
theorem wu8 {x : Int} (h : 0 ≤ x ∧ x ≤ 255) : IntKind.u8.wrap x = x := IntWalk.u8_in x h
theorem wu32 {x : Int} (h : 0 ≤ x ∧ x ≤ 4294967295) : IntKind.u32.wrap x = x := IntWalk.u32_in x h
theorem lE (x : Int) : IntKind.u64.wrap x = x % 18446744073709551616 := by simp [IntKind.wrap, IntKind.bits, IntKind.signed]
def BE {X : Type} (n : Nat) (D : List Deferred) (E : Env) (T : X → List (Nat × Value)) (L : X → List HP) (I : X → Prop) (Q : Exit → Act → World → Prop) : Exit → Act → World → Prop
 | .normal, a, w => ∃ x, I x ∧ Fits n D (T x) a ∧ Holds E w (L x)
 | e, a, w => Q e a w
theorem At.cut {X : Type} {c : Code} {K : Act → World → Prop} (T : X → List (Nat × Value)) (L : X → List HP) (I : X → Prop) (h1 : At E n D ts l (c.wp P (BE n D E T L I Q))) (h2 : ∀ x, I x → At E n D (T x) (L x) K) : At E n D ts l (c.wp P (Exit.then K Q)) :=
 fun a w f hw => Code.wp_mono (fun e a' w' hq => by
  cases e with
  | normal => obtain ⟨x, hI, hf, hH⟩ := hq; exact h2 x hI a' w' hf hH
  | _ => exact hq) (h1 a w f hw)
theorem bk {X : Type} {T : X → List (Nat × Value)} {L : X → List HP} {I : X → Prop} (x : X) (hI : I x) (hs : Sub (T x) ts) (hl : Ent l (L x)) : At E n D ts l (BE n D E T L I Q .normal) := fun _ _ f hw => ⟨x, hI, f.sub hs, hw.ent hl⟩
theorem uM {X : Type} {T : X → List (Nat × Value)} {L : X → List HP} {I : X → Prop} (h : At E n D ts l (Q .ret)) : At E n D ts l (BE n D E T L I Q .ret) := h
end
section
variable {P : Program} {E : Env} {n : Nat} {D : List Deferred} {ts : List (Nat × Value)} {l : List HP} {ops : Array Oper} {Q : Exit → Act → World → Prop} {fuel : Nat} {listed : Array Bool} {S : List (Nat × (World → Prop))}
def dI (ops : Array Oper) (listed : Array Bool) (i : Nat) : Bool := Region.noSelect ops && (Region.ready .any ops listed).contains i && Region.free .any ops listed i
theorem Dr.p (i : Nat) {d : Nat} {op : Op} {ty : TypeId} {pos : String} {af : Array Edge} {v : Value} (hi : ops[i]? = some ⟨some d, op, ty, pos, af, none⟩) (hd : Nat.blt d n = true) (hm : dI ops listed i = true) (hev : Ev P ts op v Any)
 (h : At E n D ((d, v) :: ts) l (eK P ops (bm Q) fuel (listed.setIfInBounds i true) S)) : At E n D ts l (eK P ops (bm Q) (fuel + 1) listed S) := by
 simp only [dI, Bool.and_eq_true] at hm
 exact Dr.pure i hm.1.1 hi hd hm.1.2 hm.2 hev h
theorem Dr.ld (i : Nat) {d : Nat} {op : Op} {ty : TypeId} {pos : String} {af : Array Edge} {v : Value} {φ : World → Prop} (hi : ops[i]? = some ⟨some d, op, ty, pos, af, none⟩) (hd : Nat.blt d n = true) (hm : dI ops listed i = true) (hev : Ev P ts op v φ) (hφ : ∀ w, Holds E w l → φ w)
 (h : At E n D ((d, v) :: ts) l (eK P ops (bm Q) fuel (listed.setIfInBounds i true) ((i, φ) :: S))) : At E n D ts l (eK P ops (bm Q) (fuel + 1) listed S) := by
 simp only [dI, Bool.and_eq_true] at hm
 exact Dr.take i hm.1.1 hi hd hm.1.2 hm.2 hev hφ h
end
section
variable {P : Program} {E : Env} {n : Nat} {D : List Deferred} {ts : List (Nat × Value)} {l : List HP} {ops : Array Oper} {Q : Exit → Act → World → Prop} {rest : List Oper} {ty : TypeId} {pos : String} {af : Array Edge} {fuel : Nat} {listed : Array Bool} {S : List (Nat × (World → Prop))} {d j t : Nat} {b : Bool} {op : Op} {v : Value} {φ : World → Prop}
theorem Z {α : Sort _} {a : α} : a = a := rfl
theorem dP (i : Nat) (hi : ops[i]? = some ⟨some d, op, ty, pos, af, none⟩) (hd : Nat.blt d n = true) (hev : Ev P ts op v Any) (h : At E n D ((d, v) :: ts) l (eK P ops (bm Q) fuel (listed.setIfInBounds i true) S)) (hm : dI ops listed i = true := by kernel_rfl) : At E n D ts l (eK P ops (bm Q) (fuel + 1) listed S) := Dr.p i hi hd hm hev h
theorem dL (i : Nat) (hi : ops[i]? = some ⟨some d, op, ty, pos, af, none⟩) (hd : Nat.blt d n = true) (hev : Ev P ts op v φ) (hφ : ∀ w, Holds E w l → φ w) (h : At E n D ((d, v) :: ts) l (eK P ops (bm Q) fuel (listed.setIfInBounds i true) ((i, φ) :: S))) (hm : dI ops listed i = true := by kernel_rfl) : At E n D ts l (eK P ops (bm Q) (fuel + 1) listed S) := Dr.ld i hi hd hm hev hφ h
theorem dR (j : Nat) {o : Oper} (hi : ops[j]? = some o) (hg : o.guard = none) (h : At E n D ts l (fun a w => o.wp P a w (fun a' w' => (∀ p ∈ S, gu ops j p.1 = false → p.2 w') ∧ eL P ops (bm Q) fuel (listed.setIfInBounds j true) (S.filter fun p => !gu ops j p.1) a' w') (bm Q))) (hr : Region.ready .any ops listed = [j] := by kernel_rfl) : At E n D ts l (eK P ops (bm Q) (fuel + 1) listed S) := Dr.run j hi hg hr h
theorem dE (h : At E n D ts l (Q .normal)) (hr : Region.ready .any ops listed = [] := by kernel_rfl) : At E n D ts l (eK P ops (bm Q) fuel listed S) := Dr.done hr h
theorem lA {i : Nat} (ht : (ops[j]?).bind (·.dst) = some t) (hv : look t ts = some (.bool b)) (hi : Nat.blt i n = true) (hev : Ev P ts op v φ) (hφ : ∀ w, Holds E w l → φ w) (h : At E n D ((i, v) :: ts) l (wpList P ops Q rest)) : At E n D ts l (wpList P ops Q (⟨some i, op, ty, pos, af, some (j, b)⟩ :: rest)) := L.on rfl ht hv (qd hi hev hφ h)
theorem lT {i : Nat} (ht : (ops[j]?).bind (·.dst) = some t) (hv : look t ts = some (.bool b)) (hi : Nat.blt i n = true) (hev : Ev P ts op v Any) (h : At E n D ((i, v) :: ts) l (wpList P ops Q rest)) : At E n D ts l (wpList P ops Q (⟨some i, op, ty, pos, af, some (j, b)⟩ :: rest)) := L.on rfl ht hv (qd hi hev (fun _ _ => trivial) h)
end
end Go.SL

namespace Go.SL
open Go Go.RowKit
def row (e : TypeId) (size : Nat) (v : Value) (n : Nat) (xs : List Value) : HP where
 sat w F := w.ownsRow 0 e size v n xs ∧ ∀ k, v.ownBlock = some k → F k
 loc {w w' F G} hFG hk h := by
  obtain ⟨⟨h1, h2⟩, h3⟩ := h
  refine ⟨⟨h1, ?_⟩, fun k hk' => hFG _ (h3 k hk')⟩
  rcases h2 with h2 | ⟨g, cap, cur, rfl, hb, hg, rest⟩
  · exact .inl h2
  · exact .inr ⟨g, cap, cur, rfl, hb, (hk g (h3 g Z)).trans hg, rest⟩
theorem Ent.row0 {e : TypeId} {size : Nat} {l : List HP} : Ent l (row e size (.slice none 0 0) 0 [] :: l) := fun w F s =>
 ⟨fun _ => False, F, fun _ h => h.elim, fun _ h => h, fun _ h => h.elim, ⟨World.ownsRow_nil _ _ _ _, fun k hk => by simp [Value.ownBlock] at hk⟩, s⟩
section
variable {P : Program} {E : Env} {n : Nat} {D : List Deferred} {ts : List (Nat × Value)} {l : List HP} {ops : Array Oper} {Q : Exit → Act → World → Prop} {rest : List Oper} {i : Nat} {ty : TypeId} {pos : String} {af : Array Edge} {g : Option (Nat × Bool)}
theorem Holds.row {w : World} {r : List HP} {e : TypeId} {size : Nat} {v : Value} {m : Nat} {xs : List Value} (h : Holds E w l) (s : Sel (row e size v m xs) l r) : w.ownsRow 0 e size v m xs := by
 obtain ⟨F1, F2, h1, _, _, hp, _⟩ := (h.sel s).star
 exact hp.1
theorem jK {w w' : World} {r : List HP} {e e' : TypeId} {size size' : Nat} {v v' : Value} {m m' : Nat} {xs xs' : List Value} (h : Holds E w (SL.row e size v m xs :: r)) (hg : w.grownBy w' v.ownBlock) (ho : w'.ownsRow 0 e' size' v' m' xs')
 (hm : v'.ownBlock = v.ownBlock ∨ ∃ k, v'.ownBlock = some k ∧ w.heap.size ≤ k) : Holds E w' (SL.row e' size' v' m' xs' :: r) := by
 refine h.turn hg.os hg.tape hg.output hg.size fun F1 hp hF => ⟨fun k => v'.ownBlock = some k, fun k hk => ⟨?_, (ho.lt k hk).2⟩, ⟨ho, fun k hk => hk⟩, fun k hk hnk => hg.block k hk fun hkv => hnk (hp.2 k hkv.symm)⟩
 rcases hm with hm | ⟨j, hj, hge⟩
 · exact .inl (hp.2 k (hm ▸ hk))
 · rw [hj] at hk
   injection hk with hk
   subst hk
   exact .inr hge
def fx (P : Program) (e : TypeId) (z : Value) (size bytes : Nat) : Prop := (P.info? e).map (fun i => (i.zero, i.size, i.bytes)) = some (some z, size, bytes)
def uV (A : Option Addr) (news : List Value) (w : World) : Prop := ∀ ad, A = some ad → ∀ j u, news[j]? = some u → w.cell? (ad.add j) = some u
theorem run_app_nothing {w : World} (t tty e : TypeId) (j : TypeInfo) (size : Nat) (ht : P.underlying t = some (.slice e)) (hi : P.info? e = some j)
 (v : Value) (m : Nat) (xs : List Value) (hown : w.ownsRow 0 e size v m xs) (c : Nat) : (Builtin.append_ #[t, t] tty #[v, .slice none 0 c]).run P w = .ok v w := by
 rcases hown.2 with ⟨rfl, rfl⟩ | ⟨g, cap, cur, rfl, _, _, hnc, _⟩
 · simp [Builtin.append_, run_underlying ht, sizeOf, typeInfo, hi, Builtin.lenOf, Builtin.firstCells]
 · simp [Builtin.append_, run_underlying ht, sizeOf, typeInfo, hi, Builtin.lenOf, Builtin.firstCells, hnc, storeCells]
theorem cj {s x : Operand} {t e : TypeId} {z : Value} {size bytes : Nat} {v : Value} {k : Nat} {xs : List Value} {A : Option Addr} {m c : Nat} {news : List Value} {r : List HP} {K : Act → World → Prop} (hi : Nat.blt i n = true) (ht : P.underlying t = some (.slice e)) (hel : fx P e z size bytes) (hzs : z.cells.size = size) (hsz : 0 < size)
 (hs : ev ts s = some v) (hx : ev ts x = some (.slice A m c)) (hsel : Sel (row e size v k xs) l r) (hl : news.length = m * size) (hnil : A = none → m = 0) (hnews : ∀ w, Holds E w l → uV A news w) (h1 : ∀ u ∈ news, u.oneCell' = true)
 (hmax : k + m ≤ maxLen) (hby : (k + m) * bytes ≤ 140737488355328)
 (h : ∀ v', (v' = .slice none 0 0 ↔ v = .slice none 0 0 ∧ m = 0) → At E n D ((i, v') :: ts) (row e size v' (k + m) (xs ++ news) :: r) K) :
 At E n D ts l (fun a w => (Oper.mk (some i) (.call { callee := .builtin .append, args := #[s, x], argTypes := #[t, t] }) ty pos af g).wp P a w K Q) := fun a w f hw => by
 obtain ⟨ti, hti, e0, e1, e2⟩ := info_parts hel
 have hown := hw.row hsel
 have hsel' := hw.sel hsel
 have hsrc := hnews w hw
 have hev : ∃ v' w', (execOp a.eval (Oper.mk (some i) (.call { callee := .builtin .append, args := #[s, x], argTypes := #[t, t] }) ty pos af g)).run P w = .ok (.value v') w' ∧ w'.ownsRow 0 e size v' (k + m) (xs ++ news) ∧ w.grownBy w' v.ownBlock ∧ (v' = .slice none 0 0 ↔ v = .slice none 0 0 ∧ m = 0) ∧ (v'.ownBlock = v.ownBlock ∨ v'.ownBlock = some w.heap.size) := by
  rcases A with _ | ad
  · obtain rfl : m = 0 := hnil rfl
    obtain rfl : news = [] := List.eq_nil_of_length_eq_zero (by simpa using hl)
    have hr := run_app_nothing (P := P) (w := w) t ty e ti size ht hti v k xs hown c
    exact ⟨v, w, by simp [execOp, resolve, invoke, builtin, f.eval hs, f.eval hx, hr], by simpa using hown, World.grownBy.refl w _, by simp, .inl Z⟩
  · obtain ⟨v', w', hr, h2, h3, h4, h5⟩ := run_append_own_at (P := P) w 0 t ty e ti z size bytes ht hti e0 e1 e2 hzs hsz v k xs hown ad m c news hl (hsrc ad rfl) h1 hmax hby (Nat.zero_le _)
    exact ⟨v', w', by simp [execOp, resolve, invoke, builtin, f.eval hs, f.eval hx, hr], h2, h3, h4, h5⟩
 obtain ⟨v', w', hr, h2, h3, h4, h5⟩ := hev
 unfold Oper.wp
 rw [hr]
 exact h v' h4 _ w' (f.put i (Nat.le_of_ble_eq_true hi) v') (jK hsel' h3 h2 (h5.imp_right fun h => ⟨_, h, Nat.le_refl _⟩))
theorem f6 {b o : Nat} {tb : TypeId} {cs : Array Value} {fz : Nat × Nat} {r : List HP} {news : List Value} [h : Has b l (.cells cs tb fz) r] (hv : ∀ j u, news[j]? = some u → cs[o + j]? = some u) : ∀ w, Holds E w l → uV (some ⟨b, o, none⟩) news w := fun w hw ad had j u hj => by
 injection had with had
 subst had
 rw [add_plain]
 exact uO hv w hw j u hj
theorem dT {t e : TypeId} {m : Nat} {z : Value} {size : Nat} {ps : List (Nat × Operand)} {vs : List Value} {cs : Array Value} {K : Act → World → Prop} (hi : Nat.blt i n = true) (ht : P.underlying t = some (.slice e)) (hz : bZ P e size) (hzz : fq P e z) (h0 : 0 < m * size) (hm : m * size ≤ 16777216)
 (hx : ou ts (ps.map (·.2)) = some vs) (hf : Instr.fill (fun i => some (i * size, size)) ((Array.range (m * size)).map (z.cells[· % z.cells.size]!)) ((ps.map (·.1)).zip vs) = some cs)
 (h : ∀ b, At E n D ((i, .slice (some ⟨b, 0, none⟩) m m) :: ts) (blk b e cs :: l) K) : At E n D ts l (fun a w => (Oper.mk (some i) (.buildSlice t m ps.toArray) ty pos af g).wp P a w K Q) := fun a w f hw => by
 have hp : (ps.toArray.map fun p => (p.1, a.eval p.2)).toList = (ps.map (·.1)).zip vs := by
  have := cF f.knows hx
  rw [← this]
  simp
  clear hx hf this h0 hm
  induction ps with
  | nil => rfl
  | cons p ps ih => simp; exact ih
 have hr : (execOp a.eval (Oper.mk (some i) (.buildSlice t m ps.toArray) ty pos af g)).run P w = .ok (.value (.slice (some ⟨w.heap.size, 0, none⟩) m m)) (w.alloc (.cells cs e)) := by
  simp only [execOp, Instr.buildSlice, Sem.run_bind, run_underlying ht, Result.andThen_ok, bP hz, hp]
  rw [if_neg (by omega), if_neg (by omega)]
  simp [e9 hzz, hf, newRow]
 show (Oper.mk (some i) (.buildSlice t m ps.toArray) ty pos af g).wp P a w K Q
 unfold Oper.wp
 rw [hr]
 exact h _ _ _ (f.put i (Nat.le_of_ble_eq_true hi) _) (hw.alloc _)
theorem cK {t e : TypeId} {z : Value} {x : Operand} {v : Value} {K : Act → World → Prop} (hi : Nat.blt i n = true) (ht : P.underlying t = some (.slice e)) (hz : bZ P e 1) (hzz : fq P e z) (hx : ev ts x = some v) (hv : v.oneCell' = true)
 (h : ∀ b, At E n D ((i, .slice (some ⟨b, 0, none⟩) 1 1) :: ts) (blk b e #[v] :: l) K) : At E n D ts l (fun a w => (Oper.mk (some i) (.buildSlice t 1 #[(0, x)]) ty pos af g).wp P a w K Q) :=
 dT (ps := [(0, x)]) (vs := [v]) (cs := #[v]) hi ht hz hzz (by omega) (by omega) (by simp [ou, hx]) (by
  have e1 : Array.range (1 * 1) = #[0] := rfl
  rw [e1]
  simp [Instr.fill, gH hv]) h
theorem B2 {f : FuncId} {xs : List Operand} {at_ : Array TypeId} {args : List Value} {R : Value → Prop} {K : Act → World → Prop} (hi : Nat.blt i n = true) (hb : eA P f = true) (hx : ou ts xs = some args)
 (hs : ∀ w, Holds E w l → Calls P f args.toArray w fun e w' => ∃ v, e = .returned v ∧ R v ∧ Below w.heap.size w w') (h : ∀ v, R v → At E n D ((i, v) :: ts) l K) :
 At E n D ts l (fun a w => (Oper.mk (some i) (.call { callee := .value (.func f), args := xs.toArray, argTypes := at_ }) ty pos af g).wp P a w K Q) := fun a w ft hw => by
 have := cF ft.knows hx
 have hr : (execOp a.eval (Oper.mk (some i) (.call { callee := .value (.func f), args := xs.toArray, argTypes := at_ }) ty pos af g)).run P w = .ok (.enter f args.toArray) w := by
  simp [execOp, resolve, Deferred.ofValue, Act.eval, invoke, this, cN hb]
 show (Oper.mk (some i) (.call { callee := .value (.func f), args := xs.toArray, argTypes := at_ }) ty pos af g).wp P a w K Q
 unfold Oper.wp
 rw [hr]
 refine (hs w hw).mono fun e w' ⟨v, he, hR, hbel⟩ => ?_
 subst he
 exact h v hR _ w' (ft.put i (Nat.le_of_ble_eq_true hi) v) (hw.below hbel)
theorem Does.frame {G : Env → Prop} {f : FuncId} {args : Array Value} {pre : List HP} {R : Value → List HP → Prop} (h : Does P G f args pre R) (c : List HP) : Does P G f args (pre ++ c) fun v m => ∃ m', R v m' ∧ m = m' ++ c := fun E w fr hE hw => by
 rw [List.append_assoc] at hw
 refine (h E w _ hE hw).mono fun e w' ⟨v, m, he, hR, hh⟩ => ⟨v, m ++ c, he, ⟨m, hR, rfl⟩, ?_⟩
 rw [List.append_assoc]
 exact hh
theorem dK {t : TypeId} {p : Addr} {v : Value} {w : World} (hd : iu P t = some false) (hc : w.cell? p = some v) : (loadVar t p).run P w = .ok v w := by
 simp [loadVar, gX hd, hc]
theorem qE {t : TypeId} {b o m : Nat} {vs : List Value} {w : World} (hd : iu P t = some true) (hz : bZ P t m) (hm : vs.length = m) (hc : gK b o vs w) : (loadVar t ⟨b, o, none⟩).run P w = .ok (.agg vs.toArray) w := by
 subst hm
 have := eb (P := P) vs 0 #[] (fun j v hj => by simpa using hc j v hj)
 simp [loadVar, gX hd, bP hz, loadCells, this]
theorem nC {t e : TypeId} {x y : Operand} {k : IntKind} {j len : Nat} {cs : Array Value} {v : Value} (ht : P.underlying t = some (.array len e)) (hd : iu P e = some false) (hz : bZ P e 1) (hx : ev ts x = some (.agg cs)) (hy : ev ts y = some (.int k (j : Int))) (hj : j < len) (hv : cs[j]? = some v) :
 Ev P ts (.index t x y) v Any := by
 intro a w _ _ _ _ _ kn _
 simp [execOp, kn.eval hx, kn.eval hy, Instr.index, asIntOf, run_underlying ht, bP hz, part, gX hd, hv]
 intro h; omega
theorem Ent.sel {p : HP} {r : List HP} (s : Sel p l r) : Ent l (p :: r) := Ent.perm s.perm
theorem aK {p q : HP} {r r' : List HP} (s : Sel p l r) (s' : Sel q r r') : Ent l (p :: q :: r') := (Ent.sel s).trans (Ent.cons (Ent.sel s'))
theorem bX {p q u : HP} {r r' r'' : List HP} (s : Sel p l r) (s' : Sel q r r') (s'' : Sel u r' r'') : Ent l (p :: q :: u :: r'') := (Ent.sel s).trans (Ent.cons (aK s' s''))
theorem Ent.drop1 {p : HP} {r : List HP} (s : Sel p l r) : Ent l r := (Ent.sel s).trans Ent.drop
theorem cM {t e : TypeId} {x : Operand} {lo hi : Option Operand} {A : Option Addr} {len cap a b z : Nat} (ht : P.underlying t = some (.slice e)) (hz : bZ P e z) (hx : ev ts x = some (.slice A len cap))
 (hlo : match lo with | some o => ∃ k, ev ts o = some (.int k (a : Int)) | none => a = 0) (hhi : match hi with | some o => ∃ k, ev ts o = some (.int k (b : Int)) | none => b = len) (h1 : a ≤ b) (h2 : b ≤ cap) :
 Ev P ts (.slice t x lo hi none) (.slice (if cap = a then A else A.map (·.add (a * z))) (b - a) (cap - a)) Any := by
 intro ac w _ _ _ _ _ kn _
 have hb : ((b : Int)).toNat = b := by omega
 have ha : ((a : Int)).toNat = a := by omega
 rcases lo with _ | lo <;> rcases hi with _ | hi
 · simp only at hlo hhi
   subst hlo; subst hhi
   simp [execOp, Instr.sliceAt, Instr.slice, run_underlying ht, kn.eval hx, Instr.sliceBounds, bP hz]
 · obtain ⟨k, hk⟩ := hhi
   simp only at hlo
   subst hlo
   simp [execOp, Instr.sliceAt, Instr.slice, run_underlying ht, kn.eval hx, kn.eval hk, Instr.sliceBounds, Instr.sliceBound, asIntOf, bP hz, h2]
 · obtain ⟨k, hk⟩ := hlo
   simp only at hhi
   subst hhi
   simp [execOp, Instr.sliceAt, Instr.slice, run_underlying ht, kn.eval hx, kn.eval hk, Instr.sliceBounds, Instr.sliceBound, asIntOf, bP hz, h1]
 · obtain ⟨k, hk⟩ := hlo
   obtain ⟨k', hk'⟩ := hhi
   simp [execOp, Instr.sliceAt, Instr.slice, run_underlying ht, kn.eval hx, kn.eval hk, kn.eval hk', Instr.sliceBounds, Instr.sliceBound, asIntOf, bP hz, h1, h2]
end
end Go.SL

namespace Go.Proofs.YtmeegfamopaljaaGreatDoor
open Go Go.RowKit
theorem mR {k : IntKind} {a b : Int} (h : a = b) : Ending.returned (.int k a) = .returned (.int k b) := by rw [h]
def i64 (x : Int) : Prop := -9223372036854775808 ≤ x ∧ x ≤ 9223372036854775807
def Same (B : Nat) (w w' : World) : Prop := ∀ k, k < B → w'.heap[k]? = w.heap[k]?
theorem Same.cell {B : Nat} {w w' : World} (h : Same B w w') {b o : Nat} (hb : b < B) : w'.cell? ⟨b, o, none⟩ = w.cell? ⟨b, o, none⟩ := World.cell?_of_block (w := w) (h b hb)
theorem Same.refl (B : Nat) (w : World) : Same B w w := fun _ _ => rfl
theorem Same.trans {B : Nat} {a b c : World} (h : Same B a b) (k : Same B b c) : Same B a c := fun i hi => (k i hi).trans (h i hi)
theorem Same.mono {B B' : Nat} {w w' : World} (h : Same B w w') (hB : B' ≤ B) : Same B' w w' := fun k hk => h k (Nat.lt_of_lt_of_le hk hB)
theorem _root_.Go.RowKit.Below.to_same {B : Nat} {w w' : World} (h : Below B w w') : Same B w w' := h.block
structure IntsAt (w : World) (B : Nat) (A : Option Addr) (c : Nat) (l : List Int) : Prop where
 rng : ∀ x ∈ l, i64 x
 len : l.length ≤ c
 cap : c ≤ 9223372036854775807
 cells : 0 < l.length → ∃ b off, A = some ⟨b, off, none⟩ ∧ b < B ∧ ∀ i x, l[i]? = some x → w.cell? ⟨b, off + i, none⟩ = some (.int .i64 x)
structure NodeAt (w : World) (B b off : Nat) (n : FK.Node) : Prop where
 c0 : w.cell? ⟨b, off, none⟩ = some (.int .i64 n.budget)
 c1 : w.cell? ⟨b, off + 1, none⟩ = some (.int .i64 n.close)
 c2 : w.cell? ⟨b, off + 2, none⟩ = some (.int .i64 n.beat)
 c3 : w.cell? ⟨b, off + 3, none⟩ = some (.int .i64 n.base)
 c4 : w.cell? ⟨b, off + 4, none⟩ = some (.int .i64 n.cap)
 c5 : w.cell? ⟨b, off + 5, none⟩ = some (.int .i64 n.jitter)
 c6 : ∃ A c, w.cell? ⟨b, off + 6, none⟩ = some (.slice A n.after.length c) ∧ IntsAt w B A c n.after
 rng : i64 n.budget ∧ i64 n.close ∧ i64 n.beat ∧ i64 n.base ∧ i64 n.cap ∧ i64 n.jitter
structure NodesAt (w : World) (B : Nat) (A : Option Addr) (c : Nat) (l : List FK.Node) : Prop where
 len : l.length ≤ c
 cap : c ≤ 9223372036854775807
 cells : 0 < l.length → ∃ b off, A = some ⟨b, off, none⟩ ∧ b < B ∧ ∀ i n, l[i]? = some n → NodeAt w B b (off + i * 7) n
section
variable {w w' : World} {B B' : Nat} {A : Option Addr} {c : Nat}
theorem IntsAt.keep {l : List Int} (h : IntsAt w B A c l) (s : Same B w w') : IntsAt w' B A c l := by
 obtain ⟨h0, h1, h2, h3⟩ := h
 refine ⟨h0, h1, h2, fun hl => ?_⟩
 obtain ⟨b, off, rfl, hb, hc⟩ := h3 hl
 exact ⟨b, off, rfl, hb, fun i x hx => by rw [s.cell hb]; exact hc i x hx⟩
theorem IntsAt.more {l : List Int} (h : IntsAt w B A c l) (hB : B ≤ B') : IntsAt w B' A c l := by
 obtain ⟨h0, h1, h2, h3⟩ := h
 refine ⟨h0, h1, h2, fun hl => ?_⟩
 obtain ⟨b, off, rfl, hb, hc⟩ := h3 hl
 exact ⟨b, off, rfl, by omega, hc⟩
theorem NodeAt.keep {b off : Nat} {n : FK.Node} (h : NodeAt w B b off n) (s : Same B w w') (hb : b < B) : NodeAt w' B b off n := by
 obtain ⟨c0, c1, c2, c3, c4, c5, ⟨A, c, hv, hi⟩, hr⟩ := h
 exact ⟨by rw [s.cell hb]; exact c0, by rw [s.cell hb]; exact c1, by rw [s.cell hb]; exact c2, by rw [s.cell hb]; exact c3, by rw [s.cell hb]; exact c4, by rw [s.cell hb]; exact c5, ⟨A, c, by rw [s.cell hb]; exact hv, hi.keep s⟩, hr⟩
theorem NodeAt.more {b off : Nat} {n : FK.Node} (h : NodeAt w B b off n) (hB : B ≤ B') : NodeAt w B' b off n := by
 obtain ⟨c0, c1, c2, c3, c4, c5, ⟨A, c, hv, hi⟩, hr⟩ := h
 exact ⟨c0, c1, c2, c3, c4, c5, ⟨A, c, hv, hi.more hB⟩, hr⟩
theorem NodesAt.keep {l : List FK.Node} (h : NodesAt w B A c l) (s : Same B w w') : NodesAt w' B A c l := by
 obtain ⟨h1, h2, h3⟩ := h
 refine ⟨h1, h2, fun hl => ?_⟩
 obtain ⟨b, off, rfl, hb, hc⟩ := h3 hl
 exact ⟨b, off, rfl, hb, fun i x hx => (hc i x hx).keep s hb⟩
theorem NodesAt.more {l : List FK.Node} (h : NodesAt w B A c l) (hB : B ≤ B') : NodesAt w B' A c l := by
 obtain ⟨h1, h2, h3⟩ := h
 refine ⟨h1, h2, fun hl => ?_⟩
 obtain ⟨b, off, rfl, hb, hc⟩ := h3 hl
 exact ⟨b, off, rfl, by omega, fun i x hx => (hc i x hx).more hB⟩
end
end Go.Proofs.YtmeegfamopaljaaGreatDoor

namespace Go.Proofs.YtmeegfamopaljaaGreatDoor
open Go Go.RowKit
def bO (l : List UInt8) : List Value := l.map fun b => .int .u8 b.toNat
theorem iy (l : List UInt8) : (bO l).length = l.length := by simp [bO]
theorem fY (a b : List UInt8) : bO (a ++ b) = bO a ++ bO b := by simp [bO]
def iJ (w : World) (base : Nat) (v : Value) (l : List UInt8) : Prop := w.ownsRow base 5 1 v l.length (bO l)
def Moved (B : Nat) (v v' : Value) : Prop := v'.ownBlock = v.ownBlock ∨ ∃ k, v'.ownBlock = some k ∧ B ≤ k
theorem Moved.refl (B : Nat) (v : Value) : Moved B v v := .inl rfl
theorem Moved.trans {B : Nat} {a b c : Value} (h : Moved B a b) (k : Moved B b c) : Moved B a c := by
 rcases k with k | k
 · rcases h with h | ⟨x, h, hx⟩
   · exact .inl (k.trans h)
   · exact .inr ⟨x, k.trans h, hx⟩
 · exact .inr k
theorem Moved.mono {B B' : Nat} {a b : Value} (h : Moved B a b) (hB : B' ≤ B) : Moved B' a b := by
 rcases h with h | ⟨x, h, hx⟩
 · exact .inl h
 · exact .inr ⟨x, h, by omega⟩
theorem ur {w w1 w2 : World} {v v1 : Value} (h : w.grownBy w1 v.ownBlock) (m : Moved w.heap.size v v1) (k : w1.grownBy w2 v1.ownBlock) : w.grownBy w2 v.ownBlock := by
 refine ⟨k.os.trans h.os, k.tape.trans h.tape, k.output.trans h.output, Nat.le_trans h.size k.size, fun i hi hne => ?_⟩
 rw [k.block i (Nat.lt_of_lt_of_le hi h.size) ?_, h.block i hi hne]
 rcases m with m | ⟨x, hm, hx⟩
 · rw [m]; exact hne
 · rw [hm]; intro e; injection e with e; omega
theorem gS : (Tryz.prog.info? 5).map (fun i => (i.zero, i.size, i.bytes)) = some (some (.int .u8 0), 1, 1) := by kernel_rfl
theorem mM : ∀ (k n : Nat), n < 128 ^ k → 0 < k → (FK.bz n).length ≤ k := by
 intro k
 induction k with
 | zero => intro n _ h; omega
 | succ k ih =>
  intro n hn _
  by_cases h : n < 128
  · rw [FK.gy h]; simp
  · rw [FK.iY h]
    rcases Nat.eq_zero_or_pos k with h0 | h0
    · subst h0; simp at hn; omega
    · have := ih (n / 128) (by rw [Nat.div_lt_iff_lt_mul (by omega)]; rwa [Nat.pow_succ] at hn) h0
      simp; omega
theorem ew {n : Nat} (h : n < 18446744073709551616) : (FK.bz n).length ≤ 10 := mM 10 n (Nat.lt_of_lt_of_le h (by decide)) (by omega)
def vN (w : World) (base : Nat) (v : Value) (l : List UInt8) (e : Ending) (w' : World) : Prop :=
 ∃ v', e = .returned v' ∧ iJ w' base v' l ∧ w.grownBy w' v.ownBlock ∧ Moved w.heap.size v v'
theorem rD (m : Nat) : (m : Int) % 256 = ((UInt8.ofNat m).toNat : Int) := by
 simp
theorem BZ (m : Nat) : bits BinOp.or IntKind.u8 ((m : Int) % 256) 128 = ((UInt8.ofNat (m % 128 + 128)).toNat : Int) := by
 have e1 : (m : Int) % 256 = ((m % 256 : Nat) : Int) := by omega
 rw [e1]
 have := u8_or_nat (m % 256) 128 (by omega) (by omega)
 rw [show ((128 : Int)) = ((128 : Nat) : Int) from rfl, this]
 have key : ∀ x : Fin 256, x.val ||| 128 = x.val % 128 + 128 := by decide +kernel
 have := key ⟨m % 256, by omega⟩
 simp only at this
 rw [this]
 have h2 : m % 256 % 128 = m % 128 := by omega
 rw [h2]
 simp
 omega
theorem pK {w wr w2 : World} {base : Nat} {v u0 v2 : Value} {l1 : List UInt8} {x : UInt8} {y : Int} {o : Obj} (hg : w.grownBy wr v.ownBlock) (hm : Moved w.heap.size v u0)
 (hown2 : w2.ownsRow base 5 1 v2 (l1.length + 1) (bO l1 ++ [.int .u8 y])) (hy : y = x.toNat) (hg2 : (wr.alloc o).grownBy w2 u0.ownBlock) (hat2 : v2.ownBlock = u0.ownBlock ∨ v2.ownBlock = some (wr.heap.size + 1)) :
 iJ w2 base v2 (l1 ++ [x]) ∧ w.grownBy w2 v.ownBlock ∧ Moved w.heap.size v v2 := by
 subst hy
 have hs := hg.size
 refine ⟨?_, ur hg hm ((World.grownBy_alloc wr o u0.ownBlock).trans hg2), hm.trans ?_⟩
 · unfold iJ
   rw [fY, List.length_append]
   exact hown2
 · rcases hat2 with h | h
   · exact .inl h
   · exact .inr ⟨_, h, by omega⟩
set_option maxRecDepth 10000 in
set_option maxHeartbeats 1000000 in
theorem lu (w : World) (base : Nat) (v : Value) (l : List UInt8) (n : Nat) (hn : n < 18446744073709551616) (hown : iJ w base v l) (hl : l.length ≤ 1099511627776) (hbase : base ≤ w.heap.size) :
 Calls Tryz.prog 142 #[v, .int .u64 n] w (vN w base v (l ++ FK.bz n)) := by
 obtain ⟨i0, hi, hz0, hz1, hz2⟩ := info_parts gS
 have HL := Lib.hid (show (l ++ FK.bz n).length ≤ 1099511627786 by have := ew hn; simp; omega)
 have HOWN := Lib.hid hown
 have HI := Lib.hid hi
 have HZ0 := Lib.hid hz0
 have HZ1 := Lib.hid hz1
 have HZ2 := Lib.hid hz2
 clear hown hi hz0 hz1 hz2
 go_enter Tryz.func142, Tryz.ntmps142
 go_wp2
 go_loopw [0, 1] (fun t s wr => ∃ (l1 : List UInt8) (m : Nat), s = .int .u64 m ∧ m < 18446744073709551616 ∧ l1 ++ FK.bz m = l ++ FK.bz n ∧ iJ wr base t l1 ∧ w.grownBy wr v.ownBlock ∧ Moved w.heap.size v t) (fun _ s _ => (intOf s).toNat)
 case atStart => exact ⟨l, n, rfl, hn, rfl, HOWN.out, World.grownBy.refl _ _, .refl _ _⟩
 case round =>
  obtain ⟨l1, m, rfl, hm, he, hown, hg, hmv⟩ := hrel
  have HE := Lib.hid he
  have HG := Lib.hid hg
  have HM := Lib.hid hmv
  have hsz := hg.size
  have hlen : l1.length ≤ 1099511627786 := by
   have := congrArg List.length he
   have h2 := HL.out
   simp at this h2; omega
  clear he hg hmv
  by_cases hbig : 127 < m
  · have hor := BZ m
    have HN := Lib.hid (FK.iY (n := m) (by omega))
    obtain ⟨x, hx⟩ : ∃ x : UInt8, x = UInt8.ofNat (m % 128 + 128) := ⟨_, rfl⟩
    rw [← hx] at hor HN
    clear hx
    go_wp2_with (at_builtin; go_must (refine wpList_append_own_at _ rfl (.tmp 9) (.tmp 13) 47 rfl base 5 i0 (.int .u8 0) 1 1 Tryz.underlying47 HI.out HZ0.out HZ1.out HZ2.out rfl (by decide) u0 l1.length (bO l1) rfl (World.ownsRow.alloc hown _) ⟨wr.heap.size, 0, none⟩ 1 1 [.int .u8 x.toNat] rfl rfl (cell_one_new _ _ _) (by simp [Value.oneCell']) (by unfold maxLen; omega) (by omega) (by simp; omega) ?_); intro v2 w2 hown2 hg2 _ hat2)
    obtain ⟨h1, h2, h3⟩ := pK HG.out HM.out hown2 rfl hg2 (by simpa using hat2)
    have H1 := Lib.hid h1
    have H2 := Lib.hid h2
    have H3 := Lib.hid h3
    clear h1 h2 h3 hown2 hg2 hat2 hown
    go_roundw
    case rel => exact ⟨l1 ++ [x], m / 128, by go_num, by omega, by rw [← HE.out, HN.out]; simp, H1.out, H2.out, H3.out⟩
    case measure => simp [intOf]; omega
  · have hlow := rD m
    have HN := Lib.hid (FK.gy (n := m) (by omega))
    obtain ⟨x, hx⟩ : ∃ x : UInt8, x = UInt8.ofNat m := ⟨_, rfl⟩
    rw [← hx] at hlow HN
    have hy : (m : Int) = x.toNat := by omega
    have HY := Lib.hid hy
    clear hx hlow hy
    go_wp2_with (at_builtin; go_must (refine wpList_append_own_at _ rfl (.tmp 15) (.tmp 18) 47 rfl base 5 i0 (.int .u8 0) 1 1 Tryz.underlying47 HI.out HZ0.out HZ1.out HZ2.out rfl (by decide) u0 l1.length (bO l1) rfl (World.ownsRow.alloc hown _) ⟨wr.heap.size, 0, none⟩ 1 1 [.int .u8 (m : Int)] rfl rfl (cell_one_new _ _ _) (by simp [Value.oneCell']) (by unfold maxLen; omega) (by omega) (by simp; omega) ?_); intro v2 w2 hown2 hg2 _ hat2)
    obtain ⟨h1, h2, h3⟩ := pK HG.out HM.out hown2 HY.out hg2 (by simpa using hat2)
    have H1 := Lib.hid h1
    have H2 := Lib.hid h2
    have H3 := Lib.hid h3
    clear h1 h2 h3 hown2 hg2 hat2 hown
    go_wp2
    go_ret
    exact ⟨v2, rfl, by rw [← HE.out, HN.out]; exact H1.out, H2.out, H3.out⟩
end Go.Proofs.YtmeegfamopaljaaGreatDoor

namespace Go.Proofs.YtmeegfamopaljaaGreatDoor
open Go Go.RowKit
def Tab (w : World) : Prop := TabAt 2 Lib.deBruijn64tab w
theorem Tab.keep {B : Nat} {w w' : World} (h : Tab w) (s : Same B w w') (hB : 2 < B) : Tab w' := fun j hj => by rw [s.cell hB]; exact h j hj
set_option maxHeartbeats 1000000 in
theorem vY (x k idx : Nat) (w : World) (hx0 : ((x : Int) == 0) = false)
 (key : IntKind.u64.wrap (bits BinOp.and IntKind.u64 (x : Int) (IntKind.u64.wrap (-(x : Int))) * 285870213051353865) / 288230376151711744 = (idx : Int))
 (hi : idx < 64) (hk : k < 64) (hcell : w.cell? ⟨2, idx, none⟩ = some (.int .u8 k)) :
 Calls Tryz.prog 196 #[.int .u64 x] w fun e w' => e = .returned (.int .i64 k) ∧ w = w' := by
 go_enter Tryz.func196, Tryz.ntmps196
 go_wp2_with (simp only [key])
 go_ret
 exact ⟨rfl, rfl⟩
theorem nP (x : Nat) (hx : x < 18446744073709551616) (hx0 : x ≠ 0) (w : World) (hT : Tab w) :
 Calls Tryz.prog 196 #[.int .u64 x] w fun e w' => e = .returned (.int .i64 (Lib.ctz 64 x)) ∧ w = w' := by
 obtain ⟨hlow, hk⟩ := Lib.lowest_bit 64 x hx0 hx
 obtain ⟨hi, htab⟩ := Lib.deBruijn64_at _ hk
 have hcell := hT _ hi
 rw [htab] at hcell
 exact vY x _ _ w (by simp; omega) (tz64_key x _ hx hx0 hlow) hi hk hcell
set_option maxHeartbeats 400000 in
theorem jw (x : Nat) (hx : x < 18446744073709551616) (hx0 : x ≠ 0) (w : World) (hT : Tab w) :
 Calls Tryz.prog 141 #[.int .u64 x] w fun e w' => e = .returned (.int .i64 (Lib.ctz 64 x)) ∧ w = w' := by
 have H := Lib.hid (nP x hx hx0)
 clear hx
 go_enter Tryz.func141, Tryz.ntmps141
 go_wp2_with (go_at_call 196; refine (H.out _ hT).mono ?_; rintro e w' ⟨rfl, rfl⟩)
 go_ret
 exact ⟨rfl, rfl⟩
theorem jQ (x : Nat) (hx : x < 18446744073709551616) (hx0 : x ≠ 0) : x.testBit (Lib.ctz 64 x) = true ∧ (∀ j, j < Lib.ctz 64 x → x.testBit j = false) ∧ Lib.ctz 64 x < 64 := by
 unfold Lib.ctz
 rw [if_neg hx0]
 obtain ⟨m, hm, hk⟩ := Lib.ctzFrom_spec 64 x (by omega) (by simpa using hx)
 generalize Lib.ctzFrom 64 x = t at hm hk ⊢
 refine ⟨?_, ?_, hk⟩
 · rw [hm, Nat.mul_comm, Nat.testBit_mul_two_pow, Nat.sub_self, Nat.testBit_zero]; simp
 · intro j hj
   rw [hm, Nat.mul_comm, Nat.testBit_mul_two_pow]; simp; omega
end Go.Proofs.YtmeegfamopaljaaGreatDoor
