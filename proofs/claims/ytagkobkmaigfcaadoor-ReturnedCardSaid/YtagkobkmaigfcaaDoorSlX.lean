/- Calls that may panic; panics; functions of the model's own; methods by an interface; results that lie in cells; guards of either word. -/
import Derived.Test.YtagkobkmaigfcaaDoorSlOld
import Derived.Laws.Externs
import Derived.Stop.Asserts
namespace Go.SL
open Go Go.RowKit
section
variable {P : Program} {G : Env → Prop} {E : Env} {n : Nat} {D : List Deferred} {ts : List (Nat × Value)} {l : List HP} {ops : Array Oper} {Q : Exit → Act → World → Prop} {rest : List Oper} {i : Nat} {ty : TypeId} {pos : String} {af : Array Edge} {g : Option (Nat × Bool)}

/-- a block read whole -/
theorem rowAll {b : Nat} {t : TypeId} {cs : Array Value} {fz : Nat × Nat} {r : List HP} {vs : List Value} [h : Has b l (.cells cs t fz) r] (hv : cs = vs.toArray) : ∀ w, Holds E w l → RowIs b 0 vs w := rowIs fun j v hj => by
  subst hv
  simpa using hj

/-! ### panics -/
/-- a contract whose call may panic, too -/
def DoesX (P : Program) (G : Env → Prop) (f : FuncId) (args : Array Value) (pre : List HP) (R : Value → List HP → Prop) (X : List PanicEntry → List HP → Prop) : Prop :=
  ∀ E w fr, G E → Holds E w (pre ++ fr) → Calls P f args w fun e w' => (∃ v m, e = .returned v ∧ R v m ∧ Holds E w' (m ++ fr)) ∨ ∃ c m, e = .panicked c ∧ X c m ∧ Holds E w' (m ++ fr)

theorem Does.x {f : FuncId} {args : Array Value} {pre : List HP} {R : Value → List HP → Prop} {X : List PanicEntry → List HP → Prop} (h : Does P G f args pre R) : DoesX P G f args pre R X := fun E w fr hE hw => (h E w fr hE hw).mono fun _ _ h => .inl h

def EndsX (P : Program) (fn : Func) (E : Env) (fr : List HP) (R : Value → List HP → Prop) (X : List PanicEntry → List HP → Prop) : Exit → Act → World → Prop :=
  bodyPost P fn fun e w' => (∃ v m, e = .returned v ∧ R v m ∧ Holds E w' (m ++ fr)) ∨ ∃ c m, e = .panicked c ∧ X c m ∧ Holds E w' (m ++ fr)

theorem DoesX.body {f : FuncId} {fn : Func} {c : Code} {args : List Value} {pre : List HP} {R : Value → List HP → Prop} {X : List PanicEntry → List HP → Prop} (hf : P.funcs[f]? = some fn) (hb : fn.body = some c) (hn : Nat.ble args.length fn.ntmps = true)
    (h : ∀ E fr, G E → At E fn.ntmps [] (argSlots 0 args) (pre ++ fr) (c.wp P (EndsX P fn E fr R X))) : DoesX P G f args.toArray pre R X := by
  intro E w fr hE hw
  refine calls_of_wp hf hb (h E fr hE _ _ ⟨?_, rfl, ?_⟩ hw)
  · have := Nat.le_of_ble_eq_true hn
    simp; omega
  · intro i v hi
    obtain ⟨_, h2⟩ := argSlots_get args 0 i v hi
    rw [Nat.sub_zero] at h2
    have hlt : i < args.length := (List.getElem?_eq_some_iff.1 h2).1
    simp [Array.getElem?_append, hlt, (List.getElem?_eq_some_iff.1 h2).2]

/-- what a body's end comes to, in both kinds of contracts -/
theorem At.endsX {fn : Func} {fr : List HP} {R : Value → List HP → Prop} {X : List PanicEntry → List HP → Prop} {e : Exit} (he : e = .ret ∨ e = .normal) (h : At E n D ts l (Ends P fn E fr R e)) : At E n D ts l (EndsX P fn E fr R X e) := fun a w f hw => by
  have := h a w f hw
  rcases he with rfl | rfl
  · obtain ⟨hd, v, hr, hx⟩ := this
    exact ⟨hd, v, hr, .inl hx⟩
  · obtain ⟨hd, v, hr, hx⟩ := this
    exact ⟨hd, v, hr, .inl hx⟩
theorem At.panicX {fn : Func} {fr : List HP} {R : Value → List HP → Prop} {X : List PanicEntry → List HP → Prop} {c : List PanicEntry} (m : List HP) (hX : X c m) (hm : Ent l (m ++ fr)) : At E n [] ts l (EndsX P fn E fr R X (.panic c)) := fun _ _ f hw =>
  ⟨f.defers, .inr ⟨c, m, rfl, hX, hw.ent hm⟩⟩

theorem At.thenPanic {K : Act → World → Prop} {c : List PanicEntry} (h : At E n D ts l (Q (.panic c))) : At E n D ts l (Exit.then K Q (.panic c)) := h
theorem At.inBlockPanic {id : Nat} {c : List PanicEntry} (h : At E n D ts l (Q (.panic c))) : At E n D ts l (Exit.inBlock id Q (.panic c)) := h
theorem At.roundPanic {X : Type} {T : X → List (Nat × Value)} {L : X → List HP} {I : X → Prop} {μ : X → Nat} {m : Nat} {c : List PanicEntry} (h : At E n D ts l (Q (.panic c))) : At E n D ts l (Round n D E T L I μ m Q (.panic c)) := h
theorem At.meetPanic {X : Type} {T : X → List (Nat × Value)} {L : X → List HP} {I : X → Prop} {c : List PanicEntry} (h : At E n D ts l (Q (.panic c))) : At E n D ts l (Meet n D E T L I Q (.panic c)) := h

theorem o_panic {x : Operand} {t : TypeId} {v : Value} {d : Option Tmp} {K : Act → World → Prop} (hx : ev ts x = some (.iface t v)) (h : At E n D ts l (Q (.panic [{ v := .iface t v, recovered := false }]))) : At E n D ts l (fun a w => (Oper.mk d (.panic x) ty pos af g).wp P a w K Q) := fun a w f hw => by
  have hr : (execOp a.eval (Oper.mk d (.panic x) ty pos af g)).run P w = .halt (.panic (.iface t v)) w := by simp [execOp, f.eval hx, Instr.panic]
  show (Oper.mk d (.panic x) ty pos af g).wp P a w K Q
  unfold Oper.wp
  rw [hr]
  exact h a w f hw

theorem wp_enterX {o : Oper} {f : FuncId} {args : Array Value} {pre fr : List HP} {R : Value → List HP → Prop} {X : List PanicEntry → List HP → Prop} {K : Act → World → Prop} {a : Act} {w : World} (hr : (execOp a.eval o).run P w = .ok (.enter f args) w) (hE : G E) (hs : DoesX P G f args pre R X) (hw : Holds E w (pre ++ fr))
    (hk : ∀ v m w', R v m → Holds E w' (m ++ fr) → K (a.put o.dst v) w') (hp : ∀ c m w', X c m → Holds E w' (m ++ fr) → Q (.panic c) a w') : o.wp P a w K Q := by
  unfold Oper.wp
  rw [hr]
  refine (hs E w fr hE hw).mono fun e w' h => ?_
  rcases h with ⟨v, m, he, hR, hm⟩ | ⟨c, m, he, hX, hm⟩
  · subst he
    exact hk v m w' hR hm
  · subst he
    exact hp c m w' hX hm

theorem o_callX {f : FuncId} {xs : List Operand} {at_ : Array TypeId} {args : List Value} {pre fr : List HP} {R : Value → List HP → Prop} {X : List PanicEntry → List HP → Prop} {K : Act → World → Prop} (hi : Nat.blt i n = true) (hb : hasBody P f = true) (hx : evs ts xs = some args) (hE : G E)
    (hs : DoesX P G f args.toArray pre R X) (hl : Ent l (pre ++ fr)) (hp : ∀ c m, X c m → At E n D ts (m ++ fr) (Q (.panic c))) (h : ∀ v m, R v m → At E n D ((i, v) :: ts) (m ++ fr) K) :
    At E n D ts l (fun a w => (Oper.mk (some i) (.call { callee := .value (.func f), args := xs.toArray, argTypes := at_ }) ty pos af g).wp P a w K Q) := fun a w ft hw => by
  refine wp_enterX (f := f) (args := args.toArray) ?_ hE hs (hw.ent hl) (fun v m w' hR hm => h v m hR _ w' (ft.put i (Nat.le_of_ble_eq_true hi) v) hm) fun c m w' hX hm => hp c m hX a w' ft hm
  have := evs_eval ft.knows hx
  simp [execOp, resolve, Deferred.ofValue, Act.eval, invoke, this, run_callFunc hb]
theorem o_callVX {x : Operand} {f : FuncId} {first captured : Array Value} {xs : List Operand} {at_ : Array TypeId} {args : List Value} {pre fr : List HP} {R : Value → List HP → Prop} {X : List PanicEntry → List HP → Prop} {K : Act → World → Prop} (hi : Nat.blt i n = true)
    (hv : ev ts x = some (.func (.func f) first captured)) (hb : hasBody P f = true) (hx : evs ts xs = some args) (hE : G E) (hs : DoesX P G f (first ++ args.toArray ++ captured) pre R X) (hl : Ent l (pre ++ fr)) (hp : ∀ c m, X c m → At E n D ts (m ++ fr) (Q (.panic c)))
    (h : ∀ v m, R v m → At E n D ((i, v) :: ts) (m ++ fr) K) :
    At E n D ts l (fun a w => (Oper.mk (some i) (.call { callee := .value x, args := xs.toArray, argTypes := at_ }) ty pos af g).wp P a w K Q) := fun a w ft hw => by
  refine wp_enterX (f := f) (args := first ++ args.toArray ++ captured) ?_ hE hs (hw.ent hl) (fun v m w' hR hm => h v m hR _ w' (ft.put i (Nat.le_of_ble_eq_true hi) v) hm) fun c m w' hX hm => hp c m hX a w' ft hm
  have := evs_eval ft.knows hx
  simp [execOp, resolve, Deferred.ofValue, ft.eval hv, invoke, this, run_callFunc hb]

/-! ### functions of the model's own, methods by an interface -/
/-- a call that the model answers at once, looking alone -/
theorem ev_ext {f : FuncId} {xs : List Operand} {at_ : Array TypeId} {args : List Value} {v : Value} {φ : World → Prop} (hx : evs ts xs = some args) (h : ∀ w, φ w → (callFunc f args.toArray).run P w = .ok (.value v) w) : Ev P ts (.call { callee := .value (.func f), args := xs.toArray, argTypes := at_ }) v φ := by
  intro a w _ _ _ _ _ kn hφ
  have := evs_eval kn hx
  simp [execOp, resolve, Deferred.ofValue, Act.eval, invoke, this, h w hφ]
/-- a method by an interface, that the model answers at once -/
theorem ev_mext {r : Operand} {m : String} {t : TypeId} {u : Value} {f : FuncId} {u' : Value} {xs : List Operand} {at_ : Array TypeId} {args : List Value} {v : Value} {φ : World → Prop} (hr : ev ts r = some (.iface t u)) (hx : evs ts xs = some args) (hm : ∀ w, (Go.method (P.types.size + Made.depth) t u m).run P w = .ok (f, u') w)
    (h : ∀ w, φ w → (callFunc f (u' :: args).toArray).run P w = .ok (.value v) w) : Ev P ts (.call { callee := .invoke r m, args := xs.toArray, argTypes := at_ }) v φ := by
  intro a w _ _ _ _ _ kn hφ
  have h1 := evs_eval kn hx
  have h2 : (#[a.eval r] ++ (xs.toArray.map a.eval)) = #[Value.iface t u] ++ args.toArray := by simp [kn.eval hr, h1]
  simp only [execOp, resolve, Sem.run_bind, Sem.run_pure, Result.andThen_ok, h2, invoke]
  simp [callMethod, hm, h w hφ]
/-- a new block, by the model's own function -/
theorem o_ext {f : FuncId} {xs : List Operand} {at_ : Array TypeId} {args : List Value} {o : Obj} {v : Nat → Value} {K : Act → World → Prop} (hi : Nat.blt i n = true) (hx : evs ts xs = some args) (hr : ∀ w, (callFunc f args.toArray).run P w = .ok (.value (v w.heap.size)) (w.alloc o))
    (h : ∀ b, At E n D ((i, v b) :: ts) (ob b o :: l) K) : At E n D ts l (fun a w => (Oper.mk (some i) (.call { callee := .value (.func f), args := xs.toArray, argTypes := at_ }) ty pos af g).wp P a w K Q) := fun a w ft hw => by
  have h1 := evs_eval ft.knows hx
  have : (execOp a.eval (Oper.mk (some i) (.call { callee := .value (.func f), args := xs.toArray, argTypes := at_ }) ty pos af g)).run P w = .ok (.value (v w.heap.size)) (w.alloc o) := by
    simp [execOp, resolve, Deferred.ofValue, Act.eval, invoke, h1, hr w]
  show (Oper.mk (some i) (.call { callee := .value (.func f), args := xs.toArray, argTypes := at_ }) ty pos af g).wp P a w K Q
  unfold Oper.wp
  rw [this]
  exact h _ _ _ (ft.put i (Nat.le_of_ble_eq_true hi) _) (hw.alloc _)
/-- a cell written, by the model's own function -/
theorem o_extSet {f : FuncId} {xs : List Operand} {at_ : Array TypeId} {args : List Value} {b j : Nat} {tb : TypeId} {cs : Array Value} {u v : Value} {r : List HP} {φ : World → Prop} {K : Act → World → Prop} [hh : Has b l (.cells cs tb) r] (hx : evs ts xs = some args) (hφ : ∀ w, Holds E w l → φ w)
    (hr : ∀ w, φ w → w.heap[b]? = some (.cells cs tb) → (callFunc f args.toArray).run P w = .ok (.value u) (w.setCell ⟨b, j, none⟩ v))
    (h : At E n D ts (blk b tb (cs.setIfInBounds j v) :: r) K) : At E n D ts l (fun a w => (Oper.mk none (.call { callee := .value (.func f), args := xs.toArray, argTypes := at_ }) ty pos af g).wp P a w K Q) := fun a w ft hw => by
  have h1 := evs_eval ft.knows hx
  have : (execOp a.eval (Oper.mk none (.call { callee := .value (.func f), args := xs.toArray, argTypes := at_ }) ty pos af g)).run P w = .ok (.value u) (w.setCell ⟨b, j, none⟩ v) := by
    simp [execOp, resolve, Deferred.ofValue, Act.eval, invoke, h1, hr w (hφ w hw) (hw.ob hh.sel).1]
  show (Oper.mk none (.call { callee := .value (.func f), args := xs.toArray, argTypes := at_ }) ty pos af g).wp P a w K Q
  unfold Oper.wp
  rw [this]
  exact h a _ ft (hw.store hh.sel)
/-- a method by an interface, by its contract -/
theorem o_invoke {r : Operand} {m : String} {t : TypeId} {u : Value} {f : FuncId} {u' : Value} {xs : List Operand} {at_ : Array TypeId} {args : List Value} {pre fr : List HP} {R : Value → List HP → Prop} {K : Act → World → Prop} (hi : Nat.blt i n = true) (hr : ev ts r = some (.iface t u)) (hx : evs ts xs = some args)
    (hm : ∀ w, (Go.method (P.types.size + Made.depth) t u m).run P w = .ok (f, u') w) (hb : hasBody P f = true) (hE : G E) (hs : Does P G f (u' :: args).toArray pre R) (hl : Ent l (pre ++ fr)) (h : ∀ v m, R v m → At E n D ((i, v) :: ts) (m ++ fr) K) :
    At E n D ts l (fun a w => (Oper.mk (some i) (.call { callee := .invoke r m, args := xs.toArray, argTypes := at_ }) ty pos af g).wp P a w K Q) := fun a w ft hw => by
  refine wp_enter (f := f) (args := (u' :: args).toArray) ?_ hE hs (hw.ent hl) fun v m w' hR hm => h v m hR _ w' (ft.put i (Nat.le_of_ble_eq_true hi) v) hm
  have h1 := evs_eval ft.knows hx
  have h2 : (#[a.eval r] ++ (xs.toArray.map a.eval)) = #[Value.iface t u] ++ args.toArray := by simp [ft.eval hr, h1]
  simp only [execOp, resolve, Sem.run_bind, Sem.run_pure, Result.andThen_ok, h2, invoke]
  simp [callMethod, hm, run_callFunc hb]

/-! ### assertions on interface values -/
theorem ev_as {x : Operand} {t s : TypeId} {u : Value} {d : TypeDesc} (hd : P.underlying s = some d) (hn : (match d with | .interface _ => true | _ => false) = false) (hx : ev ts x = some (.iface s u)) : Ev P ts (.typeAssert x t s true) (.tuple #[u, .bool true]) Any := by
  intro a w _ _ _ _ _ kn _
  simp only [execOp, kn.eval hx, Instr.typeAssert, Sem.run_bind, run_underlying hd, Result.andThen_ok]
  cases d <;> simp_all
theorem ev_asNot {x : Operand} {t s s' : TypeId} {u z : Value} {d : TypeDesc} (hd : P.underlying s = some d) (hn : (match d with | .interface _ => true | _ => false) = false) (hz : zeroIs P s z) (hx : ev ts x = some (.iface s' u)) (hne : Nat.beq s' s = false) : Ev P ts (.typeAssert x t s true) (.tuple #[z, .bool false]) Any := by
  intro a w _ _ _ _ _ kn _
  have : s' ≠ s := fun e => by subst e; simp at hne
  simp only [execOp, kn.eval hx, Instr.typeAssert, Sem.run_bind, run_underlying hd, Result.andThen_ok]
  cases d <;> simp_all [run_zeroIs hz]
theorem ev_asI {x : Operand} {t s s' : TypeId} {u : Value} {ms : Array (String × TypeId)} (hd : P.underlying s = some (.interface ms)) (hx : ev ts x = some (.iface s' u)) (hl : (P.info? s').map (fun i => (Go.lacking ms i.methods).isEmpty) = some true) : Ev P ts (.typeAssert x t s true) (.tuple #[.iface s' u, .bool true]) Any := by
  intro a w _ _ _ _ _ kn _
  simp [execOp, kn.eval hx, Go.run_typeAssert_hasB hd hl u t w]
theorem ev_asINot {x : Operand} {t s s' : TypeId} {u z : Value} {ms : Array (String × TypeId)} (hd : P.underlying s = some (.interface ms)) (hx : ev ts x = some (.iface s' u)) (hl : (P.info? s').map (fun i => (Go.lacking ms i.methods).isEmpty) = some false) (hz : (P.info? s).map (·.zero) = some (some z)) : Ev P ts (.typeAssert x t s true) (.tuple #[z, .bool false]) Any := by
  intro a w _ _ _ _ _ kn _
  simp [execOp, kn.eval hx, Go.run_typeAssert_lacksB hd hl hz u t w]

/-! ### '==' between errors -/
theorem ev_eqlNeT {t t' : TypeId} {x y : Operand} {s s' : TypeId} {u v : Value} {ms : Array (String × TypeId)} (ht : P.underlying t = some (.interface ms)) (hx : ev ts x = some (.iface s u)) (hy : ev ts y = some (.iface s' v)) (hne : Nat.beq s s' = false) : Ev P ts (.binOp .eql t x y t') (.bool false) Any := by
  intro ac w _ _ _ _ _ kn _
  have : s ≠ s' := fun e => by subst e; simp at hne
  exact exec_bin (kn.eval hx) (kn.eval hy) (by simp [eqGuard]) (bin_eql rfl fun d => by simp [Op.equalIn, run_underlying ht, this])
theorem ev_eqlEI {t t' : TypeId} {x y : Operand} {s : TypeId} {k : IntKind} {u v : Int} {ms : Array (String × TypeId)} {ti : TypeInfo} {r : Bool} (ht : P.underlying t = some (.interface ms)) (hs : P.underlying s = some (.int k)) (hi : P.info? s = some ti) (hc : ti.comparable = true) (hx : ev ts x = some (.iface s (.int k u))) (hy : ev ts y = some (.iface s (.int k v))) (hr : (u == v) = r) : Ev P ts (.binOp .eql t x y t') (.bool r) Any := by
  intro ac w _ _ _ _ _ kn _
  subst hr
  refine exec_bin (kn.eval hx) (kn.eval hy) (by simp [eqGuard]) ?_
  have h : ∀ d, (Op.equalIn (d + 2) t (.iface s (.int k u)) (.iface s (.int k v))).run P w = .ok (u == v) w := fun d => by
    simp [Op.equalIn, run_underlying ht, run_underlying hs, typeInfo, hi, hc]
  show (do pure (.bool (← Op.equal t (.iface s (.int k u)) (.iface s (.int k v)))) : Sem Value).run P w = _
  simp only [Op.equal, Op.maxDepth, Sem.run_bind, h 9998, Result.andThen_ok, Sem.run_pure]

/-! ### results that lie in cells -/
/-- what a result comes to, read at the end -/
def Res (P : Program) (E : Env) (ts : List (Nat × Value)) (l : List HP) (r : ResultVar) (v : Value) : Prop :=
  ∀ (a : Act) (w : World), (∀ i u, look i ts = some u → a.tmps[i]? = some u) → Holds E w l → ((match r with | .tmp t => pure (a.tmps.getD t undef) | .cell c t => do loadVar t (← asAddr (a.tmps.getD c undef))) : Sem Value).run P w = .ok v w
theorem Res.tmp {t : Nat} {v : Value} (h : look t ts = some v) : Res P E ts l (.tmp t) v := fun a w k _ => by simp [getD_of (k t v h)]
theorem Res.cell1 {c : Nat} {t : TypeId} {p : Addr} {v : Value} (hd : isAggB P t = some false) (h : look c ts = some (.pointer (some p))) (hc : ∀ w, Holds E w l → CellIs p v w) : Res P E ts l (.cell c t) v := fun a w k hw => by
  simp only [getD_of (k c _ h), asAddr, Sem.run_bind, Sem.run_pure, Result.andThen_ok]
  exact run_loadVar1 hd (hc w hw)
theorem Res.cellN {c : Nat} {t : TypeId} {b o m : Nat} {vs : List Value} (hd : isAggB P t = some true) (hz : sizeIs P t m) (hm : vs.length = m) (h : look c ts = some (.pointer (some ⟨b, o, none⟩))) (hc : ∀ w, Holds E w l → RowIs b o vs w) : Res P E ts l (.cell c t) (.agg vs.toArray) := fun a w k hw => by
  simp only [getD_of (k c _ h), asAddr, Sem.run_bind, Sem.run_pure, Result.andThen_ok]
  exact run_loadVarN hd hz hm (hc w hw)

theorem results_of1 {fn : Func} {r : ResultVar} {v : Value} (hr : fn.results = #[r]) (h : Res P E ts l r v) {a : Act} {w : World} (k : ∀ i u, look i ts = some u → a.tmps[i]? = some u) (hw : Holds E w l) : (results fn a.tmps).run P w = .ok v w := by
  have := h a w k hw
  simp only [results, hr]
  simp only [Array.mapM_eq_mapM_toList, List.mapM_cons, List.mapM_nil, Sem.run_bind, Sem.run_map]
  cases r <;> simp_all
theorem results_of2 {fn : Func} {r s : ResultVar} {u v : Value} (hr : fn.results = #[r, s]) (h : Res P E ts l r u) (h' : Res P E ts l s v) {a : Act} {w : World} (k : ∀ i u, look i ts = some u → a.tmps[i]? = some u) (hw : Holds E w l) : (results fn a.tmps).run P w = .ok (.tuple #[u, v]) w := by
  have h1 := h a w k hw
  have h2 := h' a w k hw
  simp only [results, hr]
  simp only [Array.mapM_eq_mapM_toList, List.mapM_cons, List.mapM_nil, Sem.run_bind, Sem.run_map]
  cases r <;> cases s <;> simp_all
theorem results_of3 {fn : Func} {r s q : ResultVar} {u v x : Value} (hr : fn.results = #[r, s, q]) (h : Res P E ts l r u) (h' : Res P E ts l s v) (h'' : Res P E ts l q x) {a : Act} {w : World} (k : ∀ i u, look i ts = some u → a.tmps[i]? = some u) (hw : Holds E w l) : (results fn a.tmps).run P w = .ok (.tuple #[u, v, x]) w := by
  have h1 := h a w k hw
  have h2 := h' a w k hw
  have h3 := h'' a w k hw
  simp only [results, hr]
  simp only [Array.mapM_eq_mapM_toList, List.mapM_cons, List.mapM_nil, Sem.run_bind, Sem.run_map]
  cases r <;> cases s <;> cases q <;> simp_all

theorem At.res1 {fn : Func} {fr : List HP} {R : Value → List HP → Prop} {r : ResultVar} {v : Value} (m : List HP) (hr : fn.results = #[r]) (h : Res P E ts l r v) (hR : R v m) (hm : Ent l (m ++ fr)) : At E n [] ts l (Ends P fn E fr R .ret) := fun _ _ f hw =>
  ⟨f.defers, v, results_of1 hr h f.get hw, _, m, rfl, hR, hw.ent hm⟩
theorem At.res2 {fn : Func} {fr : List HP} {R : Value → List HP → Prop} {r s : ResultVar} {u v : Value} (m : List HP) (hr : fn.results = #[r, s]) (h : Res P E ts l r u) (h' : Res P E ts l s v) (hR : R (.tuple #[u, v]) m) (hm : Ent l (m ++ fr)) : At E n [] ts l (Ends P fn E fr R .ret) := fun _ _ f hw =>
  ⟨f.defers, _, results_of2 hr h h' f.get hw, _, m, rfl, hR, hw.ent hm⟩
theorem At.res3 {fn : Func} {fr : List HP} {R : Value → List HP → Prop} {r s q : ResultVar} {u v x : Value} (m : List HP) (hr : fn.results = #[r, s, q]) (h : Res P E ts l r u) (h' : Res P E ts l s v) (h'' : Res P E ts l q x) (hR : R (.tuple #[u, v, x]) m) (hm : Ent l (m ++ fr)) : At E n [] ts l (Ends P fn E fr R .ret) := fun _ _ f hw =>
  ⟨f.defers, _, results_of3 hr h h' h'' f.get hw, _, m, rfl, hR, hw.ent hm⟩
end
end Go.SL
