/- Regions that draw their order: operations that look go ahead of all, each with what it rests on; that must stand behind each operation that may run before it. -/
import Derived.Test.YtagkobkmaigfcaaDoorSlCode
namespace Go.SL
open Go Go.RowKit

section
variable {P : Program} {ops : Array Oper} {Q : Exit → Act → World → Prop}

/-- j waits for i, at once -/
def waits (ops : Array Oper) (j i : Nat) : Bool :=
  match ops[j]? with
  | some o => o.after.any fun e => Region.binds .any e && e.on == i
  | none => false

/-- what an operation comes to in every world with φ -/
def Sure (P : Program) (ops : Array Oper) (o : Oper) (v : Value) (φ : World → Prop) (a : Act) : Prop :=
  (Region.wanted o (yielded ops a.tmps) = true ∧ ∀ w, φ w → (execOp a.eval o).run P w = .ok (.value v) w) ∨ (Region.wanted o (yielded ops a.tmps) = false ∧ v = undef)

theorem Sure.wpOp {i : Nat} {o : Oper} {v : Value} {φ : World → Prop} {a : Act} (hi : ops[i]? = some o) (hy : Sure P ops o v φ a) {K : Act → World → Prop} {w : World} (hw : φ w) (h : K (a.put o.dst v) w) : wpOp P ops Q i K a w := by
  unfold Go.wpOp
  simp only [hi]
  rcases hy with ⟨h1, hv⟩ | ⟨h1, rfl⟩
  · simp only [h1, if_true, Oper.wp, hv w hw, Oper.upon]; exact .inl h
  · simp only [h1, Bool.false_eq_true, if_false]; exact h

/-- an operation that looks at nothing that another writes comes to the same behind it -/
theorem wpOp_behind {j : Nat} {oi oj : Oper} (hj : ops[j]? = some oj) (hap : oi.apart ops oj = true) (hsi : ∀ cs b, oi.op ≠ .select cs b) {K : Act → World → Prop} {a : Act} {w : World} (h : wpOp P ops Q j K a w) :
    wpOp P ops Q j (fun a' w' => K a' w' ∧ execOp a'.eval oi = execOp a.eval oi ∧ Region.wanted oi (yielded ops a'.tmps) = Region.wanted oi (yielded ops a.tmps)) a w := by
  obtain ⟨_, _, h3⟩ := Oper.apart_spec hap
  have keep : ∀ (b : Act) (u : Value), b.tmps = a.tmps → execOp (b.put oj.dst u).eval oi = execOp a.eval oi ∧ Region.wanted oi (yielded ops (b.put oj.dst u).tmps) = Region.wanted oi (yielded ops a.tmps) := fun b u hb => by
    have e1 := execOp_put (ops := ops) oi hsi b oj.dst u h3
    have e2 := wanted_put (ops := ops) oi b oj.dst u h3
    have e3 : b.eval = a.eval := by funext x; cases x <;> simp [Act.eval, hb]
    rw [e1, e2, e3, hb]
    exact ⟨rfl, rfl⟩
  unfold wpOp at *
  simp only [hj] at *
  split
  · rename_i hw
    simp only [hw, if_true] at h
    rcases h with h | h
    · refine .inl ?_
      unfold Oper.wp at *
      generalize (execOp a.eval oj).run P w = r at *
      cases r with
      | ok n w' =>
        cases n <;> simp only [Oper.upon] at h ⊢ <;> first
          | exact ⟨h, keep a _ rfl⟩
          | exact ⟨h, keep { a with defers := _ } _ rfl⟩
          | exact Calls.mono h (fun e w'' he => by cases e <;> first | exact ⟨he, keep a _ rfl⟩ | exact he)
          | exact Rows.mono h (fun v w'' he => ⟨he, keep a _ rfl⟩)
      | halt x w' => cases x <;> simp only [Oper.upon] at h ⊢ <;> exact h
    · exact .inr h
  · rename_i hw
    simp only [hw] at h
    exact ⟨h, keep a _ rfl⟩

/-- all orders, with promises: each operation that is run leaves those that it need not wait for -/
def wpAnyP (P : Program) (ops : Array Oper) (Q : Exit → Act → World → Prop) : Nat → Array Bool → List (Nat × (World → Prop)) → Act → World → Prop
  | 0, listed, _, a, w => Region.ready .any ops listed = [] ∧ Q .normal a w
  | fuel + 1, listed, S, a, w =>
    (Region.ready .any ops listed = [] → Q .normal a w) ∧
    ∀ j ∈ Region.ready .any ops listed, wpOp P ops Q j (fun a' w' => (∀ p ∈ S, waits ops j p.1 = false → p.2 w') ∧ wpAnyP P ops Q fuel (listed.setIfInBounds j true) (S.filter fun p => !waits ops j p.1) a' w') a w

theorem wpAny_of_P : ∀ (fuel : Nat) (listed : Array Bool) (S : List (Nat × (World → Prop))) (a : Act) (w : World), wpAnyP P ops Q fuel listed S a w → wpAny P .any ops Q fuel listed a w
  | 0, _, _, _, _, h => h
  | fuel + 1, _listed, _S, _a, _w, h => ⟨h.1, fun j hj => wpOp_mono (fun a' w' h' => wpAny_of_P fuel _ _ a' w' h'.2) (h.2 j hj)⟩

theorem wpAnyP_less : ∀ (fuel : Nat) (listed : Array Bool) (S S' : List (Nat × (World → Prop))) (a : Act) (w : World), (∀ p ∈ S', p ∈ S) → wpAnyP P ops Q fuel listed S a w → wpAnyP P ops Q fuel listed S' a w
  | 0, _, _, _, _, _, _, h => h
  | fuel + 1, listed, S, S', a, w, hs, h => ⟨h.1, fun j hj => wpOp_mono (fun a' w' ⟨h1, h2⟩ => ⟨fun p hp => h1 p (hs p hp), wpAnyP_less fuel _ _ _ a' w' (fun p hp => by
      obtain ⟨h3, h4⟩ := List.mem_filter.1 hp
      exact List.mem_filter.2 ⟨hs p h3, h4⟩) h2⟩) (h.2 j hj)⟩

/-- a promise of nothing -/
theorem wpAnyP_any : ∀ (fuel : Nat) (listed : Array Bool) (S S' : List (Nat × (World → Prop))) (a : Act) (w : World), (∀ p ∈ S', p ∈ S ∨ ∀ w, p.2 w) → wpAnyP P ops Q fuel listed S a w → wpAnyP P ops Q fuel listed S' a w
  | 0, _, _, _, _, _, _, h => h
  | fuel + 1, listed, S, S', a, w, hs, h => ⟨h.1, fun j hj => wpOp_mono (fun a' w' ⟨h1, h2⟩ => ⟨fun p hp hn => (hs p hp).elim (fun h => h1 p h hn) (fun h => h w'), wpAnyP_any fuel _ _ _ a' w' (fun p hp => by
      obtain ⟨h3, h4⟩ := List.mem_filter.1 hp
      exact (hs p h3).imp_left fun h => List.mem_filter.2 ⟨h, h4⟩) h2⟩) (h.2 j hj)⟩
theorem wpAnyP_more (fuel : Nat) (listed : Array Bool) (S : List (Nat × (World → Prop))) (i : Nat) (a : Act) (w : World) (h : wpAnyP P ops Q fuel listed S a w) : wpAnyP P ops Q fuel listed ((i, Any) :: S) a w :=
  wpAnyP_any fuel listed S _ a w (fun p hp => by
    rcases List.mem_cons.1 hp with rfl | hp
    · exact .inr fun _ => trivial
    · exact .inl hp) h

/-- one that looks is taken first -/
theorem wpAnyP_take {i : Nat} {oi : Oper} {v : Value} {φ : World → Prop} (hi : ops[i]? = some oi) (hsel : ∀ (j : Nat) (o : Oper) cs b, ops[j]? = some o → o.op ≠ .select cs b)
    (hQ : ∀ c a w, Q (.panic c) (a.put oi.dst v) w → Q (.panic c) a w) :
    ∀ (fuel : Nat) (listed : Array Bool) (S : List (Nat × (World → Prop))) (a : Act) (w : World),
      (∀ j oj, ops[j]? = some oj → j ≠ i → listed.getD j true = false → (∀ e ∈ oj.after, Region.binds .any e = true → e.on ≠ i) → oi.apart ops oj = true) →
      i ∈ Region.ready .any ops listed → Sure P ops oi v φ a → φ w → (∀ p ∈ S, p.2 w) →
      wpAnyP P ops Q fuel (listed.setIfInBounds i true) ((i, φ) :: S) (a.put oi.dst v) w → wpAnyP P ops Q (fuel + 1) listed S a w := by
  intro fuel
  induction fuel with
  | zero =>
    intro listed S a w _ hr hy hφ hS H
    refine ⟨fun h => (by rw [h] at hr; cases hr), fun j hj => ?_⟩
    by_cases hji : j = i
    · subst hji
      exact hy.wpOp hi hφ ⟨fun p hp _ => hS p hp, H⟩
    · have := ready_mono hj hji
      rw [H.1] at this
      cases this
  | succ fuel ih =>
    intro listed S a w hfree hr hy hφ hS H
    refine ⟨fun h => (by rw [h] at hr; cases hr), fun j hj => ?_⟩
    by_cases hji : j = i
    · subst hji
      exact hy.wpOp hi hφ ⟨fun p hp _ => hS p hp, wpAnyP_less _ _ _ _ _ _ (fun p hp => List.mem_cons_of_mem _ (List.mem_filter.1 hp).1) H⟩
    · have h1 := H.2 j (ready_mono hj hji)
      obtain ⟨hjun, oj, hoj, hall⟩ := mem_ready.1 hj
      have hnot : ∀ e ∈ oj.after, Region.binds .any e = true → e.on ≠ i := fun e he hb heq => by
        have h1 := hall e he hb
        have h0 := (mem_ready.1 hr).1
        rw [heq] at h1
        rcases Nat.lt_or_ge i listed.size with h' | h'
        · simp [h'] at h0 h1; rw [h0] at h1; cases h1
        · simp [Array.getElem?_eq_none h'] at h1
      have hap := hfree j oj hoj hji hjun hnot
      have hw : waits ops j i = false := by
        unfold waits
        rw [hoj]
        simp only [Array.any_eq_false]
        intro k hk
        simp only [Bool.and_eq_true, beq_iff_eq, not_and]
        exact fun hb => hnot _ (Array.getElem_mem hk) hb
      let fake : Oper := ⟨oi.dst, .move (.const v), 0, "", #[], none⟩
      have hfake : Yields P ops fake v a := .inl ⟨rfl, fun w => by simp [fake, execOp, Act.eval]⟩
      have hapf : fake.apart ops oj = true := by
        simp only [Oper.apart, Bool.and_eq_true] at hap ⊢
        refine ⟨hap.1, ?_⟩
        cases oj.dst <;> simp [fake, Oper.looksAt, Op.operands]
      have h2 := wpOp_put (oi := fake) hoj hapf (fun cs b => by simp [fake]) (fun cs b => hsel j oj cs b hoj) hQ hfake h1
      have h3 := wpOp_behind (oi := oi) hoj hap (fun cs b => hsel i oi cs b hi) h2
      have hfree' : ∀ k ok, ops[k]? = some ok → k ≠ i → (listed.setIfInBounds j true).getD k true = false →
          (∀ e ∈ ok.after, Region.binds .any e = true → e.on ≠ i) → oi.apart ops ok = true := fun k ok hk hki hun hno => by
        refine hfree k ok hk hki ?_ hno
        by_cases hjk : j = k
        · subst hjk; exact hjun
        · rw [getD_set_ne true hjk] at hun; exact hun
      refine wpOp_mono (fun a' w' ⟨⟨_, h5, h6⟩, h7, h8⟩ => ⟨fun p hp hwp => h5 p (List.mem_cons_of_mem _ hp) hwp, ?_⟩) h3
      refine ih (listed.setIfInBounds j true) _ a' w' hfree' (ready_mono hr (Ne.symm hji)) ?_ (h5 (i, φ) (List.mem_cons_self ..) hw) ?_ ?_
      · unfold Sure at hy ⊢
        rw [h7, h8]; exact hy
      · intro p hp
        obtain ⟨h9, h10⟩ := List.mem_filter.1 hp
        exact h5 p (List.mem_cons_of_mem _ h9) (by simpa using h10)
      · rw [Array.setIfInBounds_comm _ _ hji]
        simp only [List.filter_cons, hw, Bool.not_false, if_true] at h6
        exact h6

/-- all promises of a list, from what is held -/
def Kept (E : Env) (l : List HP) : List (Nat × (World → Prop)) → Prop
  | [] => True
  | p :: S => (∀ w, Holds E w l → p.2 w) ∧ Kept E l S
theorem Kept.nil {E : Env} {l : List HP} : Kept E l [] := trivial
theorem Kept.cons {E : Env} {l : List HP} {i : Nat} {φ : World → Prop} {S : List (Nat × (World → Prop))} (h : ∀ w, Holds E w l → φ w) (k : Kept E l S) : Kept E l ((i, φ) :: S) := ⟨h, k⟩
theorem Kept.all {E : Env} {l : List HP} : ∀ {S : List (Nat × (World → Prop))}, Kept E l S → ∀ {w : World}, Holds E w l → ∀ p ∈ S, p.2 w
  | [], _, _, _, p, hp => by cases hp
  | q :: S, ⟨h1, h2⟩, w, hw, p, hp => by
    rcases List.mem_cons.1 hp with rfl | hp
    · exact h1 w hw
    · exact Kept.all h2 hw p hp

/-- the work that is left in a region that draws -/
def Draw (P : Program) (ops : Array Oper) (Q : Exit → Act → World → Prop) (fuel : Nat) (listed : Array Bool) (S : List (Nat × (World → Prop))) (a : Act) (w : World) : Prop :=
  (∀ p ∈ S, p.2 w) → wpAnyP P ops Q fuel listed S a w

section
variable {E : Env} {n : Nat} {D : List Deferred} {ts : List (Nat × Value)} {l : List HP} {fuel : Nat} {listed : Array Bool} {S : List (Nat × (World → Prop))}

/-- a panic out of here is none of ours, or is the same whatever the slots hold -/
def NoPanic (Q : Exit → Act → World → Prop) : Exit → Act → World → Prop
  | .panic _, _, _ => False
  | e, a, w => Q e a w

theorem Dr.start {id : Nat} {os : List Oper} (hm : P.follows .mixedOrders = true) (h : At E n D ts l (Draw P os.toArray (NoPanic Q) os.length (Array.replicate os.length false) [])) : At E n D ts l ((Code.region id os.toArray true).wp P Q) := fun a w f hw => by
  refine wp_mono (Q := NoPanic Q) (wp_region_any hm ?_) fun e a w h => by cases e <;> first | exact h | exact h.elim
  simp only [List.size_toArray]
  exact wpAny_of_P _ _ _ _ _ (h a _ ⟨f.size, f.defers, f.get⟩ (hw.drawn _) (fun p hp => by cases hp))

theorem Dr.take (i : Nat) {d : Nat} {op : Op} {ty : TypeId} {pos : String} {af : Array Edge} {v : Value} {φ : World → Prop} (hs : Region.noSelect ops = true) (hi : ops[i]? = some ⟨some d, op, ty, pos, af, none⟩) (hd : Nat.blt d n = true)
    (hr : (Region.ready .any ops listed).contains i = true) (hf : Region.free .any ops listed i = true) (hev : Ev P ts op v φ) (hφ : ∀ w, Holds E w l → φ w)
    (h : At E n D ((d, v) :: ts) l (Draw P ops (NoPanic Q) fuel (listed.setIfInBounds i true) ((i, φ) :: S))) : At E n D ts l (Draw P ops (NoPanic Q) (fuel + 1) listed S) := fun a w f hw hS =>
  wpAnyP_take hi (Region.noSelect_spec hs) (fun _ _ _ h => h.elim) fuel listed S a w (Region.free_spec hi hf) (by simpa using hr) (.inl ⟨rfl, fun w hw => hev a w _ _ _ _ _ f.knows hw⟩) (hφ w hw) hS
    (h _ w (f.put d (Nat.le_of_ble_eq_true hd) v) hw (fun p hp => by
      rcases List.mem_cons.1 hp with rfl | hp
      · exact hφ w hw
      · exact hS p hp))
/-- one that asks nothing of the world -/
theorem Dr.pure (i : Nat) {d : Nat} {op : Op} {ty : TypeId} {pos : String} {af : Array Edge} {v : Value} (hs : Region.noSelect ops = true) (hi : ops[i]? = some ⟨some d, op, ty, pos, af, none⟩) (hd : Nat.blt d n = true)
    (hr : (Region.ready .any ops listed).contains i = true) (hf : Region.free .any ops listed i = true) (hev : Ev P ts op v Any)
    (h : At E n D ((d, v) :: ts) l (Draw P ops (NoPanic Q) fuel (listed.setIfInBounds i true) S)) : At E n D ts l (Draw P ops (NoPanic Q) (fuel + 1) listed S) := fun a w f hw hS => by
  have hS' : ∀ p ∈ (i, Any) :: S, p.2 w := fun p hp => by
    rcases List.mem_cons.1 hp with rfl | hp
    · trivial
    · exact hS p hp
  refine wpAnyP_take hi (Region.noSelect_spec hs) (fun _ _ _ h => h.elim) fuel listed S a w (Region.free_spec hi hf) (by simpa using hr) (.inl ⟨rfl, fun w hw => hev a w _ _ _ _ _ f.knows hw⟩) trivial hS ?_
  exact wpAnyP_more fuel _ S i _ w (h _ w (f.put d (Nat.le_of_ble_eq_true hd) v) hw hS)
/-- a guarded one that is passed over -/
theorem Dr.off (i : Nat) {o : Oper} {d j t : Nat} {b c : Bool} (hs : Region.noSelect ops = true) (hi : ops[i]? = some o) (ho : o.dst = some d) (hd : Nat.blt d n = true) (hg : o.guard = some (j, b)) (ht : (ops[j]?).bind (·.dst) = some t) (hv : look t ts = some (.bool c)) (hb : c = !b)
    (hr : (Region.ready .any ops listed).contains i = true) (hf : Region.free .any ops listed i = true)
    (h : At E n D ((d, undef) :: ts) l (Draw P ops (NoPanic Q) fuel (listed.setIfInBounds i true) S)) : At E n D ts l (Draw P ops (NoPanic Q) (fuel + 1) listed S) := fun a w f hw hS => by
  have hS' : ∀ p ∈ (i, Any) :: S, p.2 w := fun p hp => by
    rcases List.mem_cons.1 hp with rfl | hp
    · trivial
    · exact hS p hp
  have hno : Region.wanted o (yielded ops a.tmps) = false := by subst hb; cases b <;> simp [Region.wanted, hg, yielded, ht, f.get t _ hv]
  refine wpAnyP_take (v := undef) (φ := Any) hi (Region.noSelect_spec hs) (fun _ _ _ h => h.elim) fuel listed S a w (Region.free_spec hi hf) (by simpa using hr) (.inr ⟨hno, rfl⟩) trivial hS ?_
  rw [ho]
  exact wpAnyP_more fuel _ S i _ w (h _ w (f.put d (Nat.le_of_ble_eq_true hd) _) hw hS)
/-- a guarded one that is wanted -/
theorem Dr.on (i : Nat) {_o : Oper} {op : Op} {ty : TypeId} {pos : String} {af : Array Edge} {d j t : Nat} {b : Bool} {v : Value} {φ : World → Prop} (hs : Region.noSelect ops = true) (hi : ops[i]? = some ⟨some d, op, ty, pos, af, some (j, b)⟩) (hd : Nat.blt d n = true) (ht : (ops[j]?).bind (·.dst) = some t) (hv : look t ts = some (.bool b))
    (hr : (Region.ready .any ops listed).contains i = true) (hf : Region.free .any ops listed i = true) (hev : Ev P ts op v φ) (hφ : ∀ w, Holds E w l → φ w)
    (h : At E n D ((d, v) :: ts) l (Draw P ops (NoPanic Q) fuel (listed.setIfInBounds i true) ((i, φ) :: S))) : At E n D ts l (Draw P ops (NoPanic Q) (fuel + 1) listed S) := fun a w f hw hS =>
  wpAnyP_take hi (Region.noSelect_spec hs) (fun _ _ _ h => h.elim) fuel listed S a w (Region.free_spec hi hf) (by simpa using hr) (.inl ⟨by simp [Region.wanted, yielded, ht, f.get t _ hv], fun w hw => hev a w _ _ _ _ _ f.knows hw⟩) (hφ w hw) hS
    (h _ w (f.put d (Nat.le_of_ble_eq_true hd) v) hw (fun p hp => by
      rcases List.mem_cons.1 hp with rfl | hp
      · exact hφ w hw
      · exact hS p hp))

/-- the one that must come next -/
theorem Dr.run (j : Nat) {o : Oper} (hi : ops[j]? = some o) (hg : o.guard = none) (hr : Region.ready .any ops listed = [j])
    (h : At E n D ts l (fun a w => o.wp P a w (fun a' w' => (∀ p ∈ S, waits ops j p.1 = false → p.2 w') ∧ wpAnyP P ops (NoPanic Q) fuel (listed.setIfInBounds j true) (S.filter fun p => !waits ops j p.1) a' w') (NoPanic Q))) :
    At E n D ts l (Draw P ops (NoPanic Q) (fuel + 1) listed S) := fun a w f hw _ => by
  refine ⟨fun h0 => (by rw [h0] at hr; cases hr), ?_⟩
  rw [hr]
  intro k hk
  simp at hk
  subst hk
  unfold wpOp
  simp only [hi, Region.wanted, hg, if_true]
  exact .inl (h a w f hw)
/-- two that may come in either order -/
theorem Dr.run2 (j k : Nat) {o u : Oper} (hi : ops[j]? = some o) (hg : o.guard = none) (hk : ops[k]? = some u) (hu : u.guard = none) (hr : Region.ready .any ops listed = [j, k])
    (h : At E n D ts l (fun a w => o.wp P a w (fun a' w' => (∀ p ∈ S, waits ops j p.1 = false → p.2 w') ∧ wpAnyP P ops (NoPanic Q) fuel (listed.setIfInBounds j true) (S.filter fun p => !waits ops j p.1) a' w') (NoPanic Q)))
    (h' : At E n D ts l (fun a w => u.wp P a w (fun a' w' => (∀ p ∈ S, waits ops k p.1 = false → p.2 w') ∧ wpAnyP P ops (NoPanic Q) fuel (listed.setIfInBounds k true) (S.filter fun p => !waits ops k p.1) a' w') (NoPanic Q))) :
    At E n D ts l (Draw P ops (NoPanic Q) (fuel + 1) listed S) := fun a w f hw _ => by
  refine ⟨fun h0 => (by rw [h0] at hr; cases hr), ?_⟩
  rw [hr]
  intro x hx
  simp at hx
  unfold wpOp
  rcases hx with rfl | rfl
  · simp only [hi, Region.wanted, hg, if_true]
    exact .inl (h a w f hw)
  · simp only [hk, Region.wanted, hu, if_true]
    exact .inl (h' a w f hw)

/-- those that a mask lets stay -/
def pick : List Bool → List (Nat × (World → Prop)) → List (Nat × (World → Prop))
  | true :: m, p :: S => p :: pick m S
  | false :: m, _ :: S => pick m S
  | _, _ => []
theorem pick_filter {f : Nat → Bool} : ∀ {S : List (Nat × (World → Prop))} {mask : List Bool}, (S.map fun p => f p.1) = mask → (S.filter fun p => f p.1) = pick mask S
  | [], mask, h => by subst h; rfl
  | p :: S, mask, h => by
    subst h
    simp only [List.map_cons, List.filter_cons]
    cases hf : f p.1 with
    | true => simp only [if_true, pick]; rw [pick_filter rfl]
    | false => simp only [Bool.false_eq_true, if_false, pick]; rw [pick_filter rfl]

/-- behind it: the promises stand; those that it waited for are over -/
theorem Dr.kept {j : Nat} (mask : List Bool) (hm : (S.map fun p => !waits ops j p.1) = mask) (hk : Kept E l (pick mask S)) (h : At E n D ts l (Draw P ops (NoPanic Q) fuel (listed.setIfInBounds j true) (pick mask S))) :
    At E n D ts l (fun a' w' => (∀ p ∈ S, waits ops j p.1 = false → p.2 w') ∧ wpAnyP P ops (NoPanic Q) fuel (listed.setIfInBounds j true) (S.filter fun p => !waits ops j p.1) a' w') := fun a w f hw => by
  have hS := pick_filter (f := fun i => !waits ops j i) hm
  rw [hS]
  have := hk.all hw
  refine ⟨fun p hp hn => this p ?_, h a w f hw this⟩
  rw [← hS]
  exact List.mem_filter.2 ⟨hp, by simp [hn]⟩

theorem Dr.done (hr : Region.ready .any ops listed = []) (h : At E n D ts l (Q .normal)) : At E n D ts l (Draw P ops (NoPanic Q) fuel listed S) := fun a w f hw _ => by
  cases fuel with
  | zero => exact ⟨hr, h a w f hw⟩
  | succ m => exact ⟨fun _ => h a w f hw, by rw [hr]; simp⟩
end
end
end Go.SL
