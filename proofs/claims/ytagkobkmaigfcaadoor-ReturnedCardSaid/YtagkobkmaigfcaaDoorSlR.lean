/- Deferred calls and recover; structs that are built. -/
import Derived.Test.YtagkobkmaigfcaaDoorSlX
import Derived.Recover
namespace Go.SL
open Go Go.RowKit
section
variable {P : Program} {G : Env → Prop} {E : Env} {n : Nat} {D : List Deferred} {ts : List (Nat × Value)} {l : List HP} {ops : Array Oper} {Q : Exit → Act → World → Prop} {rest : List Oper} {i : Nat} {ty : TypeId} {pos : String} {af : Array Edge} {g : Option (Nat × Bool)}

/-! ### structs that are built -/
def placesOf (P : Program) : List Field → Option (List (Nat × Nat))
  | [] => some []
  | f :: fs => match P.info? f.type, placesOf P fs with
    | some i, some r => some ((f.offset, i.size) :: r)
    | _, _ => none

theorem run_places {w : World} : ∀ {fs : List Field} {pl : List (Nat × Nat)}, placesOf P fs = some pl → (fs.mapM fun f => (do pure (f.offset, ← sizeOf f.type) : Sem (Nat × Nat))).run P w = .ok pl w
  | [], pl, h => by simp [placesOf] at h; subst h; simp
  | f :: fs, pl, h => by
    simp only [placesOf] at h
    split at h
    · rename_i i r hi hr
      injection h with h
      subst h
      have hsz : (sizeOf f.type).run P w = .ok i.size w := by simp [sizeOf, typeInfo, hi]
      rw [List.mapM_cons]
      simp only [Sem.run_bind, hsz, Result.andThen_ok, Sem.run_pure, run_places hr]
    · cases h

theorem ev_build {t : TypeId} {fs : Array Field} {pl : List (Nat × Nat)} {z : Value} {ps : List (Nat × Operand)} {vs : List Value} {cs : Array Value} (hu : P.underlying t = some (.struct fs)) (hp : placesOf P fs.toList = some pl) (hz : zeroIs P t z)
    (hx : evs ts (ps.map (·.2)) = some vs) (hf : Instr.fill (pl.toArray[·]?) z.cells ((ps.map (·.1)).zip vs) = some cs) : Ev P ts (.build t ps.toArray) (.agg cs) Any := by
  intro a w _ _ _ _ _ kn _
  have he : (ps.toArray.map fun p => (p.1, a.eval p.2)).toList = (ps.map (·.1)).zip vs := by
    have := evs_eval kn hx
    rw [← this]
    simp
    clear hx hf this
    induction ps with
    | nil => rfl
    | cons p ps ih => simp; exact ih
  simp only [execOp, Instr.build, Sem.run_bind, run_zeroIs hz, run_underlying hu, Result.andThen_ok, Array.mapM_eq_mapM_toList, Sem.run_map, run_places hp, he]
  simp only [Result.andThen_ok, hf, Sem.run_pure]

/-! ### what is deferred -/
/-- a deferred call's contract: the frame below is in the mode u; behind it in u' -/
def DoesD (P : Program) (G : Env → Prop) (f : FuncId) (args : Array Value) (u u' : FrameMode) (pre : List HP) (R : List HP → Prop) : Prop :=
  ∀ E w fr, G E → Holds E w (pre ++ fr) → CallsD P f args u w fun e u'' w' => e = .returned (.tuple #[]) ∧ u'' = u' ∧ ∃ m, R m ∧ Holds E w' (m ++ fr)

/-- what a body that defers must come to -/
def EndsF (P : Program) (fn : Func) (E : Env) (fr : List HP) (R : Value → List HP → Prop) : Exit → Act → World → Prop :=
  bodyPostD P fn fun e w' => ∃ v m, e = .returned v ∧ R v m ∧ Holds E w' (m ++ fr)

theorem Does.bodyF {f : FuncId} {fn : Func} {c : Code} {args : List Value} {pre : List HP} {R : Value → List HP → Prop} (hf : P.funcs[f]? = some fn) (hb : fn.body = some c) (hn : Nat.ble args.length fn.ntmps = true)
    (h : ∀ E fr, G E → At E fn.ntmps [] (argSlots 0 args) (pre ++ fr) (c.wp P (EndsF P fn E fr R))) : Does P G f args.toArray pre R := by
  intro E w fr hE hw
  refine calls_of_wp_defers hf hb (h E fr hE _ _ ⟨?_, rfl, ?_⟩ hw)
  · have := Nat.le_of_ble_eq_true hn
    simp; omega
  · intro i v hi
    obtain ⟨_, h2⟩ := argSlots_get args 0 i v hi
    rw [Nat.sub_zero] at h2
    have hlt : i < args.length := (List.getElem?_eq_some_iff.1 h2).1
    simp [Array.getElem?_append, hlt, (List.getElem?_eq_some_iff.1 h2).2]

theorem o_defer {x : Operand} {f : FuncId} {first cap : Array Value} {K : Act → World → Prop} (hx : ev ts x = some (.func (.func f) first cap)) (h : At E n ({ target := .fn (.func f) cap, args := first } :: D) ts l K) :
    At E n D ts l (fun a w => (Oper.mk none (.defer { callee := .value x, args := #[], argTypes := #[] }) ty pos af g).wp P a w K Q) := fun a w ft hw => by
  have hr : (execOp a.eval (Oper.mk none (.defer { callee := .value x, args := #[], argTypes := #[] }) ty pos af g)).run P w = .ok (.defer { target := .fn (.func f) cap, args := first }) w := by
    simp [execOp, resolve, Deferred.ofValue, ft.eval hx]
  show (Oper.mk none (.defer { callee := .value x, args := #[], argTypes := #[] }) ty pos af g).wp P a w K Q
  unfold Oper.wp
  rw [hr]
  exact h _ w ⟨ft.size, by simp [Act.put, ft.defers], fun i v hi => ft.get i v hi⟩ hw

/-- the door: the one deferred call, of a body that returns -/
theorem At.leave {fn : Func} {fr l' : List HP} {R : Value → List HP → Prop} {f : FuncId} {first cap : Array Value} {pre : List HP} {Rd : List HP → Prop} {u' : FrameMode} {e : Exit} (he : e = .ret ∨ e = .normal) (hu : settle u' = .returning) (hb : hasBody P f = true) (hE : G E)
    (hs : DoesD P G f (first ++ cap) .returning u' pre Rd) (hl : Ent l (pre ++ l')) (h : ∀ m, Rd m → At E n [] ts (m ++ l') (Ends P fn E fr R .ret)) : At E n [{ target := .fn (.func f) cap, args := first }] ts l (EndsF P fn E fr R e) := fun a w ft hw => by
  have key : Leaves P fn a.tmps (fun e w' => ∃ v m, e = .returned v ∧ R v m ∧ Holds E w' (m ++ fr)) a.defers .returning w := by
    rw [ft.defers]
    refine leaves_cons (f := f) (args := first ++ cap) (by simp) (by simp [invoke, run_callFunc hb]) ((hs E w l' hE (hw.ent hl)).mono ?_)
    rintro e u'' w' ⟨rfl, rfl, m, hm, hh⟩
    simp only [hu]
    obtain ⟨_, v, hr, hx⟩ := h m hm { a with defers := [] } w' ⟨ft.size, rfl, ft.get⟩ hh
    exact ⟨v, hr, hx⟩
  rcases he with rfl | rfl <;> exact key
/-- the door, of a body that panics -/
theorem At.leaveX {fn : Func} {fr l' : List HP} {R : Value → List HP → Prop} {f : FuncId} {first cap : Array Value} {pre : List HP} {Rd : List HP → Prop} {u' : FrameMode} {c : List PanicEntry} (hu : settle u' = .returning) (hb : hasBody P f = true) (hE : G E)
    (hs : DoesD P G f (first ++ cap) (.panicking c) u' pre Rd) (hl : Ent l (pre ++ l')) (h : ∀ m, Rd m → At E n [] ts (m ++ l') (Ends P fn E fr R .ret)) : At E n [{ target := .fn (.func f) cap, args := first }] ts l (EndsF P fn E fr R (.panic c)) := fun a w ft hw => by
  show Leaves P fn a.tmps (fun e w' => ∃ v m, e = .returned v ∧ R v m ∧ Holds E w' (m ++ fr)) a.defers (.panicking c) w
  rw [ft.defers]
  refine leaves_cons (f := f) (args := first ++ cap) (by simp) (by simp [invoke, run_callFunc hb]) ((hs E w l' hE (hw.ent hl)).mono ?_)
  rintro e u'' w' ⟨rfl, rfl, m, hm, hh⟩
  simp only [hu]
  obtain ⟨_, v, hr, hx⟩ := h m hm { a with defers := [] } w' ⟨ft.size, rfl, ft.get⟩ hh
  exact ⟨v, hr, hx⟩

/-- a closure that recovers first of all -/
theorem DoesD.recover {f : FuncId} {fn : Func} {c : Code} {id d : Nat} {args : List Value} {u u' : FrameMode} {v : Value} {pre : List HP} {R : List HP → Prop} (hf : P.funcs[f]? = some fn)
    (hb : fn.body = some (.seq (.region id #[⟨some d, .call { callee := .builtin .recover, args := #[], argTypes := #[] }, ty, pos, af, none⟩] false) c)) (hn : Nat.ble args.length fn.ntmps = true) (hd : Nat.blt d fn.ntmps = true)
    (hu : (u = .returning ∧ u' = .returning ∧ v = .nilIface) ∨ ∃ older, u = .panicking ({ v := v, recovered := false } :: older) ∧ u' = .panicking ({ v := v, recovered := true } :: older))
    (h : ∀ E fr, G E → At E fn.ntmps [] ((d, v) :: argSlots 0 args) (pre ++ fr) (c.wp P (Ends P fn E fr fun v m => v = .tuple #[] ∧ R m))) : DoesD P G f args.toArray u u' pre R := by
  intro E w fr hE hw
  refine callsD_of_wpS hf hb fun c₀ cs hc => ?_
  have hfit : Fits fn.ntmps [] (argSlots 0 args) { tmps := args.toArray ++ Array.replicate (fn.ntmps - args.toArray.size) undef, defers := [] } := by
    refine ⟨?_, rfl, ?_⟩
    · have := Nat.le_of_ble_eq_true hn
      simp; omega
    · intro i v hi
      obtain ⟨_, h2⟩ := argSlots_get args 0 i v hi
      rw [Nat.sub_zero] at h2
      have hlt : i < args.length := (List.getElem?_eq_some_iff.1 h2).1
      simp [Array.getElem?_append, hlt, (List.getElem?_eq_some_iff.1 h2).2]
  have hk := h E fr hE _ w (hfit.put d (Nat.le_of_ble_eq_true hd) v) hw
  have hrest : ∀ c₁ : Frame, c₁ = { c₀ with mode := u' } → c.wpS P (bodyPostS P fn c₀ cs fun e u'' w' => e = .returned (.tuple #[]) ∧ u'' = u' ∧ ∃ m, R m ∧ Holds E w' (m ++ fr)) (({ tmps := args.toArray ++ Array.replicate (fn.ntmps - args.toArray.size) undef, defers := [] } : Act).put (some d) v) (c₁ :: cs) w := by
    rintro c₁ rfl
    refine wpS_of_wp (Code.wp_mono ?_ hk)
    intro e a w' hq
    cases e with
    | normal => exact let ⟨h1, v, h2, v', m, h3, ⟨h4, h5⟩, h6⟩ := hq; ⟨h1, u', rfl, v, h2, by rw [h3, h4], rfl, m, h5, h6⟩
    | ret => exact let ⟨h1, v, h2, v', m, h3, ⟨h4, h5⟩, h6⟩ := hq; ⟨h1, u', rfl, v, h2, by rw [h3, h4], rfl, m, h5, h6⟩
    | panic c => exact let ⟨_, v', m, h3, _⟩ := hq; by cases h3
    | exit _ => exact hq.elim
    | goto _ => exact hq.elim
    | outgrown => exact let ⟨v', m, h3, _⟩ := hq; by cases h3
  apply wpS_seq
  apply wpS_region
  have hex : ∀ (a : Act) (w : World), (execOp a.eval ⟨some d, .call { callee := .builtin .recover, args := #[], argTypes := #[] }, ty, pos, af, none⟩).run P w = .ok .recover w := fun a w => by
    simp [execOp, resolve, invoke, builtin]
  simp only [List.size_toArray, List.length_cons, List.length_nil, Nat.zero_add, List.range_one, wpOpsS, List.getElem?_toArray, List.getElem?_cons_zero, Region.wanted, if_true, hex]
  rcases hu with ⟨rfl, rfl, rfl⟩ | ⟨older, rfl, rfl⟩
  · have hrec : recoverD (c₀ :: cs) = none := by simp [recoverD, hc]
    simp only [hrec, Exit.thenS]
    exact hrest c₀ (by cases c₀; simp_all)
  · have hrec : recoverD (c₀ :: cs) = some (v, { c₀ with mode := .panicking ({ v := v, recovered := true } :: older) } :: cs) := by simp [recoverD, hc]
    simp only [hrec, Exit.thenS]
    exact hrest _ rfl
end
end Go.SL
