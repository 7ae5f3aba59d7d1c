/- Calls that may panic; panics; functions of the model's own; methods by an interface; results that lie in cells; guards of either word. -/
import Derived.Test.YtagkobkmaigfcaaDoorAlF
import Derived.Laws.Externs
import Derived.Stop.Asserts
import Derived.Test.YtagkobkmaigfcaaDoorAlG
import Derived.Recover
import Derived.MapKept
namespace Go.SL
open Go Go.RowKit
section
variable {P : Program} {G : Env → Prop} {E : Env} {n : Nat} {D : List Deferred} {ts : List (Nat × Value)} {l : List HP} {ops : Array Oper} {Q : Exit → Act → World → Prop} {rest : List Oper} {i : Nat} {ty : TypeId} {pos : String} {af : Array Edge} {g : Option (Nat × Bool)}

/-- a block read whole -/
theorem rowAll {b : Nat} {t : TypeId} {cs : Array Value} {fz : Nat × Nat} {r : List HP} {vs : List Value} [h : Has b l (.cells cs t fz) r] (hv : cs = vs.toArray) : ∀ w, Holds E w l → RowIs b 0 vs w := rowIs fun j v hj => by
  subst hv
  simpa using hj

/-! ### panics -/
/-- a contract whose call may panic, too -/
def DoesX (P : Program) (G : Env → Prop) (f : FuncId) (args : Array Value) (pre : List HP) (R : Value → List HP → Prop) (X : List PanicEntry → List HP → Prop) : Prop :=
  ∀ E w fr, G E → Holds E w (pre ++ fr) → Calls P f args w fun e w' => (∃ v m, e = .returned v ∧ R v m ∧ Holds E w' (m ++ fr)) ∨ ∃ c m, e = .panicked c ∧ X c m ∧ Holds E w' (m ++ fr)

theorem Does.x {f : FuncId} {args : Array Value} {pre : List HP} {R : Value → List HP → Prop} {X : List PanicEntry → List HP → Prop} (h : Does P G f args pre R) : DoesX P G f args pre R X := fun E w fr hE hw => (h E w fr hE hw).mono fun _ _ h => .inl h

def EndsX (P : Program) (fn : Func) (E : Env) (fr : List HP) (R : Value → List HP → Prop) (X : List PanicEntry → List HP → Prop) : Exit → Act → World → Prop :=
  bodyPost P fn fun e w' => (∃ v m, e = .returned v ∧ R v m ∧ Holds E w' (m ++ fr)) ∨ ∃ c m, e = .panicked c ∧ X c m ∧ Holds E w' (m ++ fr)

theorem DoesX.body {f : FuncId} {fn : Func} {c : Code} {args : List Value} {pre : List HP} {R : Value → List HP → Prop} {X : List PanicEntry → List HP → Prop} (hf : P.funcs[f]? = some fn) (hb : fn.body = some c) (hn : Nat.ble args.length fn.ntmps = true)
    (h : ∀ E fr, G E → At E fn.ntmps [] (argSlots 0 args) (pre ++ fr) (c.wp P (EndsX P fn E fr R X))) : DoesX P G f args.toArray pre R X := by
  intro E w fr hE hw
  refine calls_of_wp hf hb (h E fr hE _ _ ⟨?_, rfl, ?_⟩ hw)
  · have := Nat.le_of_ble_eq_true hn
    simp; omega
  · intro i v hi
    obtain ⟨_, h2⟩ := argSlots_get args 0 i v hi
    rw [Nat.sub_zero] at h2
    have hlt : i < args.length := (List.getElem?_eq_some_iff.1 h2).1
    simp [Array.getElem?_append, hlt, (List.getElem?_eq_some_iff.1 h2).2]

/-- what a body's end comes to, in both kinds of contracts -/
theorem At.endsX {fn : Func} {fr : List HP} {R : Value → List HP → Prop} {X : List PanicEntry → List HP → Prop} {e : Exit} (he : e = .ret ∨ e = .normal) (h : At E n D ts l (Ends P fn E fr R e)) : At E n D ts l (EndsX P fn E fr R X e) := fun a w f hw => by
  have := h a w f hw
  rcases he with rfl | rfl
  · obtain ⟨hd, v, hr, hx⟩ := this
    exact ⟨hd, v, hr, .inl hx⟩
  · obtain ⟨hd, v, hr, hx⟩ := this
    exact ⟨hd, v, hr, .inl hx⟩
theorem At.panicX {fn : Func} {fr : List HP} {R : Value → List HP → Prop} {X : List PanicEntry → List HP → Prop} {c : List PanicEntry} (m : List HP) (hX : X c m) (hm : Ent l (m ++ fr)) : At E n [] ts l (EndsX P fn E fr R X (.panic c)) := fun _ _ f hw =>
  ⟨f.defers, .inr ⟨c, m, rfl, hX, hw.ent hm⟩⟩

theorem At.thenPanic {K : Act → World → Prop} {c : List PanicEntry} (h : At E n D ts l (Q (.panic c))) : At E n D ts l (Exit.then K Q (.panic c)) := h
theorem At.inBlockPanic {id : Nat} {c : List PanicEntry} (h : At E n D ts l (Q (.panic c))) : At E n D ts l (Exit.inBlock id Q (.panic c)) := h
theorem At.roundPanic {X : Type} {T : X → List (Nat × Value)} {L : X → List HP} {I : X → Prop} {μ : X → Nat} {m : Nat} {c : List PanicEntry} (h : At E n D ts l (Q (.panic c))) : At E n D ts l (Round n D E T L I μ m Q (.panic c)) := h
theorem At.meetPanic {X : Type} {T : X → List (Nat × Value)} {L : X → List HP} {I : X → Prop} {c : List PanicEntry} (h : At E n D ts l (Q (.panic c))) : At E n D ts l (Meet n D E T L I Q (.panic c)) := h

theorem o_panic {x : Operand} {t : TypeId} {v : Value} {d : Option Tmp} {K : Act → World → Prop} (hx : ev ts x = some (.iface t v)) (h : At E n D ts l (Q (.panic [{ v := .iface t v, recovered := false }]))) : At E n D ts l (fun a w => (Oper.mk d (.panic x) ty pos af g).wp P a w K Q) := fun a w f hw => by
  have hr : (execOp a.eval (Oper.mk d (.panic x) ty pos af g)).run P w = .halt (.panic (.iface t v)) w := by simp [execOp, f.eval hx, Instr.panic]
  show (Oper.mk d (.panic x) ty pos af g).wp P a w K Q
  unfold Oper.wp
  rw [hr]
  exact h a w f hw

theorem wp_enterX {o : Oper} {f : FuncId} {args : Array Value} {pre fr : List HP} {R : Value → List HP → Prop} {X : List PanicEntry → List HP → Prop} {K : Act → World → Prop} {a : Act} {w : World} (hr : (execOp a.eval o).run P w = .ok (.enter f args) w) (hE : G E) (hs : DoesX P G f args pre R X) (hw : Holds E w (pre ++ fr))
    (hk : ∀ v m w', R v m → Holds E w' (m ++ fr) → K (a.put o.dst v) w') (hp : ∀ c m w', X c m → Holds E w' (m ++ fr) → Q (.panic c) a w') : o.wp P a w K Q := by
  unfold Oper.wp
  rw [hr]
  refine (hs E w fr hE hw).mono fun e w' h => ?_
  rcases h with ⟨v, m, he, hR, hm⟩ | ⟨c, m, he, hX, hm⟩
  · subst he
    exact hk v m w' hR hm
  · subst he
    exact hp c m w' hX hm

theorem o_callX {f : FuncId} {xs : List Operand} {at_ : Array TypeId} {args : List Value} {pre fr : List HP} {R : Value → List HP → Prop} {X : List PanicEntry → List HP → Prop} {K : Act → World → Prop} (hi : Nat.blt i n = true) (hb : hasBody P f = true) (hx : evs ts xs = some args) (hE : G E)
    (hs : DoesX P G f args.toArray pre R X) (hl : Ent l (pre ++ fr)) (hp : ∀ c m, X c m → At E n D ts (m ++ fr) (Q (.panic c))) (h : ∀ v m, R v m → At E n D ((i, v) :: ts) (m ++ fr) K) :
    At E n D ts l (fun a w => (Oper.mk (some i) (.call { callee := .value (.func f), args := xs.toArray, argTypes := at_ }) ty pos af g).wp P a w K Q) := fun a w ft hw => by
  refine wp_enterX (f := f) (args := args.toArray) ?_ hE hs (hw.ent hl) (fun v m w' hR hm => h v m hR _ w' (ft.put i (Nat.le_of_ble_eq_true hi) v) hm) fun c m w' hX hm => hp c m hX a w' ft hm
  have := evs_eval ft.knows hx
  simp [execOp, resolve, Deferred.ofValue, Act.eval, invoke, this, run_callFunc hb]
theorem o_callVX {x : Operand} {f : FuncId} {first captured : Array Value} {xs : List Operand} {at_ : Array TypeId} {args : List Value} {pre fr : List HP} {R : Value → List HP → Prop} {X : List PanicEntry → List HP → Prop} {K : Act → World → Prop} (hi : Nat.blt i n = true)
    (hv : ev ts x = some (.func (.func f) first captured)) (hb : hasBody P f = true) (hx : evs ts xs = some args) (hE : G E) (hs : DoesX P G f (first ++ args.toArray ++ captured) pre R X) (hl : Ent l (pre ++ fr)) (hp : ∀ c m, X c m → At E n D ts (m ++ fr) (Q (.panic c)))
    (h : ∀ v m, R v m → At E n D ((i, v) :: ts) (m ++ fr) K) :
    At E n D ts l (fun a w => (Oper.mk (some i) (.call { callee := .value x, args := xs.toArray, argTypes := at_ }) ty pos af g).wp P a w K Q) := fun a w ft hw => by
  refine wp_enterX (f := f) (args := first ++ args.toArray ++ captured) ?_ hE hs (hw.ent hl) (fun v m w' hR hm => h v m hR _ w' (ft.put i (Nat.le_of_ble_eq_true hi) v) hm) fun c m w' hX hm => hp c m hX a w' ft hm
  have := evs_eval ft.knows hx
  simp [execOp, resolve, Deferred.ofValue, ft.eval hv, invoke, this, run_callFunc hb]

/-! ### functions of the model's own, methods by an interface -/
/-- a call that the model answers at once, looking alone -/
theorem ev_ext {f : FuncId} {xs : List Operand} {at_ : Array TypeId} {args : List Value} {v : Value} {φ : World → Prop} (hx : evs ts xs = some args) (h : ∀ w, φ w → (callFunc f args.toArray).run P w = .ok (.value v) w) : Ev P ts (.call { callee := .value (.func f), args := xs.toArray, argTypes := at_ }) v φ := by
  intro a w _ _ _ _ _ kn hφ
  have := evs_eval kn hx
  simp [execOp, resolve, Deferred.ofValue, Act.eval, invoke, this, h w hφ]
/-- a method by an interface, that the model answers at once -/
theorem ev_mext {r : Operand} {m : String} {t : TypeId} {u : Value} {f : FuncId} {u' : Value} {xs : List Operand} {at_ : Array TypeId} {args : List Value} {v : Value} {φ : World → Prop} (hr : ev ts r = some (.iface t u)) (hx : evs ts xs = some args) (hm : ∀ w, (Go.method (P.types.size + Made.depth) t u m).run P w = .ok (f, u') w)
    (h : ∀ w, φ w → (callFunc f (u' :: args).toArray).run P w = .ok (.value v) w) : Ev P ts (.call { callee := .invoke r m, args := xs.toArray, argTypes := at_ }) v φ := by
  intro a w _ _ _ _ _ kn hφ
  have h1 := evs_eval kn hx
  have h2 : (#[a.eval r] ++ (xs.toArray.map a.eval)) = #[Value.iface t u] ++ args.toArray := by simp [kn.eval hr, h1]
  simp only [execOp, resolve, Sem.run_bind, Sem.run_pure, Result.andThen_ok, h2, invoke]
  simp [callMethod, hm, h w hφ]
/-- a new block, by the model's own function -/
theorem o_ext {f : FuncId} {xs : List Operand} {at_ : Array TypeId} {args : List Value} {o : Obj} {v : Nat → Value} {K : Act → World → Prop} (hi : Nat.blt i n = true) (hx : evs ts xs = some args) (hr : ∀ w, (callFunc f args.toArray).run P w = .ok (.value (v w.heap.size)) (w.alloc o))
    (h : ∀ b, At E n D ((i, v b) :: ts) (ob b o :: l) K) : At E n D ts l (fun a w => (Oper.mk (some i) (.call { callee := .value (.func f), args := xs.toArray, argTypes := at_ }) ty pos af g).wp P a w K Q) := fun a w ft hw => by
  have h1 := evs_eval ft.knows hx
  have : (execOp a.eval (Oper.mk (some i) (.call { callee := .value (.func f), args := xs.toArray, argTypes := at_ }) ty pos af g)).run P w = .ok (.value (v w.heap.size)) (w.alloc o) := by
    simp [execOp, resolve, Deferred.ofValue, Act.eval, invoke, h1, hr w]
  show (Oper.mk (some i) (.call { callee := .value (.func f), args := xs.toArray, argTypes := at_ }) ty pos af g).wp P a w K Q
  unfold Oper.wp
  rw [this]
  exact h _ _ _ (ft.put i (Nat.le_of_ble_eq_true hi) _) (hw.alloc _)
/-- a cell written, by the model's own function -/
theorem o_extSet {f : FuncId} {xs : List Operand} {at_ : Array TypeId} {args : List Value} {b j : Nat} {tb : TypeId} {cs : Array Value} {u v : Value} {r : List HP} {φ : World → Prop} {K : Act → World → Prop} [hh : Has b l (.cells cs tb) r] (hx : evs ts xs = some args) (hφ : ∀ w, Holds E w l → φ w)
    (hr : ∀ w, φ w → w.heap[b]? = some (.cells cs tb) → (callFunc f args.toArray).run P w = .ok (.value u) (w.setCell ⟨b, j, none⟩ v))
    (h : At E n D ts (blk b tb (cs.setIfInBounds j v) :: r) K) : At E n D ts l (fun a w => (Oper.mk none (.call { callee := .value (.func f), args := xs.toArray, argTypes := at_ }) ty pos af g).wp P a w K Q) := fun a w ft hw => by
  have h1 := evs_eval ft.knows hx
  have : (execOp a.eval (Oper.mk none (.call { callee := .value (.func f), args := xs.toArray, argTypes := at_ }) ty pos af g)).run P w = .ok (.value u) (w.setCell ⟨b, j, none⟩ v) := by
    simp [execOp, resolve, Deferred.ofValue, Act.eval, invoke, h1, hr w (hφ w hw) (hw.ob hh.sel).1]
  show (Oper.mk none (.call { callee := .value (.func f), args := xs.toArray, argTypes := at_ }) ty pos af g).wp P a w K Q
  unfold Oper.wp
  rw [this]
  exact h a _ ft (hw.store hh.sel)
/-- a method by an interface, by its contract -/
theorem o_invoke {r : Operand} {m : String} {t : TypeId} {u : Value} {f : FuncId} {u' : Value} {xs : List Operand} {at_ : Array TypeId} {args : List Value} {pre fr : List HP} {R : Value → List HP → Prop} {K : Act → World → Prop} (hi : Nat.blt i n = true) (hr : ev ts r = some (.iface t u)) (hx : evs ts xs = some args)
    (hm : ∀ w, (Go.method (P.types.size + Made.depth) t u m).run P w = .ok (f, u') w) (hb : hasBody P f = true) (hE : G E) (hs : Does P G f (u' :: args).toArray pre R) (hl : Ent l (pre ++ fr)) (h : ∀ v m, R v m → At E n D ((i, v) :: ts) (m ++ fr) K) :
    At E n D ts l (fun a w => (Oper.mk (some i) (.call { callee := .invoke r m, args := xs.toArray, argTypes := at_ }) ty pos af g).wp P a w K Q) := fun a w ft hw => by
  refine wp_enter (f := f) (args := (u' :: args).toArray) ?_ hE hs (hw.ent hl) fun v m w' hR hm => h v m hR _ w' (ft.put i (Nat.le_of_ble_eq_true hi) v) hm
  have h1 := evs_eval ft.knows hx
  have h2 : (#[a.eval r] ++ (xs.toArray.map a.eval)) = #[Value.iface t u] ++ args.toArray := by simp [ft.eval hr, h1]
  simp only [execOp, resolve, Sem.run_bind, Sem.run_pure, Result.andThen_ok, h2, invoke]
  simp [callMethod, hm, run_callFunc hb]

/-! ### assertions on interface values -/
theorem ev_as {x : Operand} {t s : TypeId} {u : Value} {d : TypeDesc} (hd : P.underlying s = some d) (hn : (match d with | .interface _ => true | _ => false) = false) (hx : ev ts x = some (.iface s u)) : Ev P ts (.typeAssert x t s true) (.tuple #[u, .bool true]) Any := by
  intro a w _ _ _ _ _ kn _
  simp only [execOp, kn.eval hx, Instr.typeAssert, Sem.run_bind, run_underlying hd, Result.andThen_ok]
  cases d <;> simp_all
theorem ev_asNot {x : Operand} {t s s' : TypeId} {u z : Value} {d : TypeDesc} (hd : P.underlying s = some d) (hn : (match d with | .interface _ => true | _ => false) = false) (hz : zeroIs P s z) (hx : ev ts x = some (.iface s' u)) (hne : Nat.beq s' s = false) : Ev P ts (.typeAssert x t s true) (.tuple #[z, .bool false]) Any := by
  intro a w _ _ _ _ _ kn _
  have : s' ≠ s := fun e => by subst e; simp at hne
  simp only [execOp, kn.eval hx, Instr.typeAssert, Sem.run_bind, run_underlying hd, Result.andThen_ok]
  cases d <;> simp_all [run_zeroIs hz]
theorem ev_asI {x : Operand} {t s s' : TypeId} {u : Value} {ms : Array (String × TypeId)} (hd : P.underlying s = some (.interface ms)) (hx : ev ts x = some (.iface s' u)) (hl : (P.info? s').map (fun i => (Go.lacking ms i.methods).isEmpty) = some true) : Ev P ts (.typeAssert x t s true) (.tuple #[.iface s' u, .bool true]) Any := by
  intro a w _ _ _ _ _ kn _
  simp [execOp, kn.eval hx, Go.run_typeAssert_hasB hd hl u t w]
theorem ev_asINot {x : Operand} {t s s' : TypeId} {u z : Value} {ms : Array (String × TypeId)} (hd : P.underlying s = some (.interface ms)) (hx : ev ts x = some (.iface s' u)) (hl : (P.info? s').map (fun i => (Go.lacking ms i.methods).isEmpty) = some false) (hz : (P.info? s).map (·.zero) = some (some z)) : Ev P ts (.typeAssert x t s true) (.tuple #[z, .bool false]) Any := by
  intro a w _ _ _ _ _ kn _
  simp [execOp, kn.eval hx, Go.run_typeAssert_lacksB hd hl hz u t w]

/-! ### '==' between errors -/
theorem ev_eqlNeT {t t' : TypeId} {x y : Operand} {s s' : TypeId} {u v : Value} {ms : Array (String × TypeId)} (ht : P.underlying t = some (.interface ms)) (hx : ev ts x = some (.iface s u)) (hy : ev ts y = some (.iface s' v)) (hne : Nat.beq s s' = false) : Ev P ts (.binOp .eql t x y t') (.bool false) Any := by
  intro ac w _ _ _ _ _ kn _
  have : s ≠ s' := fun e => by subst e; simp at hne
  exact exec_bin (kn.eval hx) (kn.eval hy) (by simp [eqGuard]) (bin_eql rfl fun d => by simp [Op.equalIn, run_underlying ht, this])
theorem ev_eqlEI {t t' : TypeId} {x y : Operand} {s : TypeId} {k : IntKind} {u v : Int} {ms : Array (String × TypeId)} {ti : TypeInfo} {r : Bool} (ht : P.underlying t = some (.interface ms)) (hs : P.underlying s = some (.int k)) (hi : P.info? s = some ti) (hc : ti.comparable = true) (hx : ev ts x = some (.iface s (.int k u))) (hy : ev ts y = some (.iface s (.int k v))) (hr : (u == v) = r) : Ev P ts (.binOp .eql t x y t') (.bool r) Any := by
  intro ac w _ _ _ _ _ kn _
  subst hr
  refine exec_bin (kn.eval hx) (kn.eval hy) (by simp [eqGuard]) ?_
  have h : ∀ d, (Op.equalIn (d + 2) t (.iface s (.int k u)) (.iface s (.int k v))).run P w = .ok (u == v) w := fun d => by
    simp [Op.equalIn, run_underlying ht, run_underlying hs, typeInfo, hi, hc]
  show (do pure (.bool (← Op.equal t (.iface s (.int k u)) (.iface s (.int k v)))) : Sem Value).run P w = _
  simp only [Op.equal, Op.maxDepth, Sem.run_bind, h 9998, Result.andThen_ok, Sem.run_pure]

/-! ### results that lie in cells -/
/-- what a result comes to, read at the end -/
def Res (P : Program) (E : Env) (ts : List (Nat × Value)) (l : List HP) (r : ResultVar) (v : Value) : Prop :=
  ∀ (a : Act) (w : World), (∀ i u, look i ts = some u → a.tmps[i]? = some u) → Holds E w l → ((match r with | .tmp t => pure (a.tmps.getD t undef) | .cell c t => do loadVar t (← asAddr (a.tmps.getD c undef))) : Sem Value).run P w = .ok v w
theorem Res.tmp {t : Nat} {v : Value} (h : look t ts = some v) : Res P E ts l (.tmp t) v := fun a w k _ => by simp [getD_of (k t v h)]
theorem Res.cell1 {c : Nat} {t : TypeId} {p : Addr} {v : Value} (hd : isAggB P t = some false) (h : look c ts = some (.pointer (some p))) (hc : ∀ w, Holds E w l → CellIs p v w) : Res P E ts l (.cell c t) v := fun a w k hw => by
  simp only [getD_of (k c _ h), asAddr, Sem.run_bind, Sem.run_pure, Result.andThen_ok]
  exact run_loadVar1 hd (hc w hw)
theorem Res.cellN {c : Nat} {t : TypeId} {b o m : Nat} {vs : List Value} (hd : isAggB P t = some true) (hz : sizeIs P t m) (hm : vs.length = m) (h : look c ts = some (.pointer (some ⟨b, o, none⟩))) (hc : ∀ w, Holds E w l → RowIs b o vs w) : Res P E ts l (.cell c t) (.agg vs.toArray) := fun a w k hw => by
  simp only [getD_of (k c _ h), asAddr, Sem.run_bind, Sem.run_pure, Result.andThen_ok]
  exact run_loadVarN hd hz hm (hc w hw)

theorem results_of1 {fn : Func} {r : ResultVar} {v : Value} (hr : fn.results = #[r]) (h : Res P E ts l r v) {a : Act} {w : World} (k : ∀ i u, look i ts = some u → a.tmps[i]? = some u) (hw : Holds E w l) : (results fn a.tmps).run P w = .ok v w := by
  have := h a w k hw
  simp only [results, hr]
  simp only [Array.mapM_eq_mapM_toList, List.mapM_cons, List.mapM_nil, Sem.run_bind, Sem.run_map]
  cases r <;> simp_all
theorem results_of2 {fn : Func} {r s : ResultVar} {u v : Value} (hr : fn.results = #[r, s]) (h : Res P E ts l r u) (h' : Res P E ts l s v) {a : Act} {w : World} (k : ∀ i u, look i ts = some u → a.tmps[i]? = some u) (hw : Holds E w l) : (results fn a.tmps).run P w = .ok (.tuple #[u, v]) w := by
  have h1 := h a w k hw
  have h2 := h' a w k hw
  simp only [results, hr]
  simp only [Array.mapM_eq_mapM_toList, List.mapM_cons, List.mapM_nil, Sem.run_bind, Sem.run_map]
  cases r <;> cases s <;> simp_all
theorem results_of3 {fn : Func} {r s q : ResultVar} {u v x : Value} (hr : fn.results = #[r, s, q]) (h : Res P E ts l r u) (h' : Res P E ts l s v) (h'' : Res P E ts l q x) {a : Act} {w : World} (k : ∀ i u, look i ts = some u → a.tmps[i]? = some u) (hw : Holds E w l) : (results fn a.tmps).run P w = .ok (.tuple #[u, v, x]) w := by
  have h1 := h a w k hw
  have h2 := h' a w k hw
  have h3 := h'' a w k hw
  simp only [results, hr]
  simp only [Array.mapM_eq_mapM_toList, List.mapM_cons, List.mapM_nil, Sem.run_bind, Sem.run_map]
  cases r <;> cases s <;> cases q <;> simp_all

theorem At.res1 {fn : Func} {fr : List HP} {R : Value → List HP → Prop} {r : ResultVar} {v : Value} (m : List HP) (hr : fn.results = #[r]) (h : Res P E ts l r v) (hR : R v m) (hm : Ent l (m ++ fr)) : At E n [] ts l (Ends P fn E fr R .ret) := fun _ _ f hw =>
  ⟨f.defers, v, results_of1 hr h f.get hw, _, m, rfl, hR, hw.ent hm⟩
theorem At.res2 {fn : Func} {fr : List HP} {R : Value → List HP → Prop} {r s : ResultVar} {u v : Value} (m : List HP) (hr : fn.results = #[r, s]) (h : Res P E ts l r u) (h' : Res P E ts l s v) (hR : R (.tuple #[u, v]) m) (hm : Ent l (m ++ fr)) : At E n [] ts l (Ends P fn E fr R .ret) := fun _ _ f hw =>
  ⟨f.defers, _, results_of2 hr h h' f.get hw, _, m, rfl, hR, hw.ent hm⟩
theorem At.res3 {fn : Func} {fr : List HP} {R : Value → List HP → Prop} {r s q : ResultVar} {u v x : Value} (m : List HP) (hr : fn.results = #[r, s, q]) (h : Res P E ts l r u) (h' : Res P E ts l s v) (h'' : Res P E ts l q x) (hR : R (.tuple #[u, v, x]) m) (hm : Ent l (m ++ fr)) : At E n [] ts l (Ends P fn E fr R .ret) := fun _ _ f hw =>
  ⟨f.defers, _, results_of3 hr h h' h'' f.get hw, _, m, rfl, hR, hw.ent hm⟩
end
end Go.SL

/- Rows opened as blocks and closed again; flows in memory that is owned. -/
namespace Go.SL
open Go Go.RowKit
section
variable {P : Program} {E : Env} {n : Nat} {D : List Deferred} {ts : List (Nat × Value)} {l : List HP}

/-- a row is nil, or a block of its own -/
theorem At.openRow {e : TypeId} {size m : Nat} {v : Value} {xs : List Value} {r : List HP} {K : Act → World → Prop} (s : Sel (row e size v m xs) l r)
    (h0 : v = .slice none 0 0 → m = 0 → xs = [] → At E n D ts r K)
    (h1 : ∀ g cap cur, v = .slice (some ⟨g, 0, none⟩) m cap → xs.length = m * size → m ≤ cap → cap ≤ maxLen → cur.size = cap * size → cur.toList.take (m * size) = xs → At E n D ts (blk g e cur :: r) K) : At E n D ts l K := fun a w f hw => by
  have h := hw.sel s
  obtain ⟨F1, F2, hF1, hF2, hd, ⟨⟨hlen, hown⟩, hF⟩, hl⟩ := h.star
  rcases hown with ⟨rfl, rfl⟩ | ⟨g, cap, cur, rfl, _, hg, hm, hc, hs, ht⟩
  · exact h0 rfl rfl (List.eq_nil_of_length_eq_zero (by simpa using hlen)) a w f ⟨hw.is, hl.mono hF2⟩
  · exact h1 g cap cur rfl hlen hm hc hs ht a w f ⟨hw.is, F1, F2, hF1, hF2, hd, ⟨hF g rfl, hg⟩, hl⟩

/-- what a row looks like -/
theorem At.formRow {e : TypeId} {size m : Nat} {v : Value} {xs : List Value} {r : List HP} {K : Act → World → Prop} (s : Sel (row e size v m xs) l r)
    (h : ∀ A c, v = .slice A m c → (A = none → m = 0 ∧ c = 0) → (∀ ad, A = some ad → ∃ g, ad = ⟨g, 0, none⟩) → m ≤ c → c ≤ maxLen → xs.length = m * size → At E n D ts l K) : At E n D ts l K := fun a w f hw => by
  obtain ⟨hlen, hown⟩ := hw.row s
  rcases hown with ⟨rfl, rfl⟩ | ⟨g, cap, cur, rfl, _, hg, hm, hc, hs, ht⟩
  · exact h none 0 rfl (fun _ => ⟨rfl, rfl⟩) (fun _ hx => by cases hx) (Nat.le_refl _) (Nat.zero_le _) hlen a w f hw
  · exact h _ cap rfl (fun hx => by cases hx) (fun ad hx => by injection hx with hx; exact ⟨g, hx.symm⟩) hm hc hlen a w f hw

theorem Ent.closeRow {e : TypeId} {size m g cap : Nat} {cur : Array Value} {xs : List Value} {r : List HP} (hm : m ≤ cap) (hc : cap ≤ maxLen) (hs : cur.size = cap * size) (ht : cur.toList.take (m * size) = xs) :
    Ent (blk g e cur :: r) (row e size (.slice (some ⟨g, 0, none⟩) m cap) m xs :: r) := fun w _ ⟨F1, F2, h1, h2, hd, hp, hl⟩ =>
  ⟨F1, F2, h1, h2, hd, ⟨⟨by rw [← ht]; simp [hs]; rw [Nat.min_eq_left hm], .inr ⟨g, cap, cur, rfl, Nat.zero_le _, hp.2, hm, hc, hs, ht⟩⟩, fun k hk => by injection hk with hk; subst hk; exact hp.1⟩, hl⟩

/-- cells of a row, read -/
theorem rowIn {e : TypeId} {size m g o c : Nat} {xs vs : List Value} {r : List HP} (s : Sel (row e size (.slice (some ⟨g, 0, none⟩) m c) m xs) l r) (h : ∀ j u, vs[j]? = some u → xs[o + j]? = some u) : ∀ w, Holds E w l → RowIs g o vs w := fun w hw j v hj => by
  have := (hw.row s).cells (g := g) rfl (o + j) v (h j v hj)
  rwa [add_plain, Nat.zero_add] at this
theorem cellIn {e : TypeId} {size m g o c : Nat} {xs : List Value} {u : Value} {r : List HP} (s : Sel (row e size (.slice (some ⟨g, 0, none⟩) m c) m xs) l r) (h : xs[o]? = some u) : ∀ w, Holds E w l → CellIs ⟨g, o, none⟩ u w := fun w hw => by
  have := (hw.row s).cells (g := g) rfl o u h
  rwa [add_plain, Nat.zero_add] at this
end

/-! several facts as one -/
theorem At.openAll {E : Env} {n : Nat} {D : List Deferred} {ts : List (Nat × Value)} {m l : List HP} {K : Act → World → Prop} (h : At E n D ts (m ++ l) K) : At E n D ts (HP.all m :: l) K := fun a w f hw => h a w f (hw.ent Ent.unall)
end Go.SL
namespace Go.Proofs.YtagkobkmaigfcaaDoor
open Go Go.RowKit Go.SL

/-- integers that are owned -/
abbrev intsAt (v : Value) (l : List Int) : HP := row 3 1 v l.length (intsV l)
/-- the lists of nodes -/
def aftsAt (vs : List Value) (l : List FK.Node) : List HP := (vs.zip l).map fun p => intsAt p.1 p.2.after
/-- nodes that are owned, with lists of their own -/
def nodesOwn (v : Value) (l : List FK.Node) : HP := HP.ex fun vs : List Value => HP.all (HP.pure (vs.length = l.length) :: row 32 7 v l.length (nodesV l vs) :: aftsAt vs l)

theorem Star.mem {w : World} {p : HP} : ∀ {l : List HP} {F : Nat → Prop}, Star w l F → p ∈ l → p.sat w F
  | [], _, _, h => by cases h
  | q :: l, F, ⟨F1, F2, h1, h2, hd, hp, hl⟩, h => by
    rcases List.mem_cons.1 h with rfl | h
    · exact p.loc h1 (fun _ _ => rfl) hp
    · exact p.loc h2 (fun _ _ => rfl) (Star.mem hl h)

theorem nodesOwn.own {E : Env} {w : World} {v : Value} {ns : List FK.Node} {l r : List HP} (s : Sel (nodesOwn v ns) l r) (hw : Holds E w l) : ∃ vs, OwnNodes w 0 v ns vs := by
  obtain ⟨F1, F2, h1, h2, hd, ⟨vs, hp⟩, hl⟩ := (hw.sel s).star
  obtain ⟨_, G2, _, _, _, hlen, _, G4, _, _, _, hrow, hafts⟩ := hp
  refine ⟨vs, hlen, hrow.1, fun i nd u hi hu => ?_⟩
  have hz : (vs.zip ns)[i]? = some (u, nd) := by simp [List.getElem?_zip_eq_some, hi, hu]
  have hm : intsAt u nd.after ∈ aftsAt vs ns := List.mem_map.2 ⟨(u, nd), List.mem_of_getElem? hz, rfl⟩
  exact (Star.mem hafts hm).1

/-- as nodes that are read -/
theorem nodesOwn.at {E : Env} {A : Option Addr} {c : Nat} {ns : List FK.Node} {l r : List HP} (s : Sel (nodesOwn (.slice A ns.length c) ns) l r) (hr : ∀ n ∈ ns, (i64 n.budget ∧ i64 n.close ∧ i64 n.beat ∧ i64 n.base ∧ i64 n.cap ∧ i64 n.jitter) ∧ ∀ x ∈ n.after, i64 x) :
    ∀ w, Holds E w l → NodesAt w w.heap.size A c ns := fun w hw => by
  obtain ⟨vs, h⟩ := nodesOwn.own s hw
  exact h.nodesAt hr

theorem nodesOwn.ent {v : Value} {ns : List FK.Node} {vs : List Value} {r : List HP} (h : vs.length = ns.length) : Ent (row 32 7 v ns.length (nodesV ns vs) :: (aftsAt vs ns ++ r)) (nodesOwn v ns :: r) := by
  have e1 : Ent (row 32 7 v ns.length (nodesV ns vs) :: (aftsAt vs ns ++ r)) ((HP.pure (vs.length = ns.length) :: row 32 7 v ns.length (nodesV ns vs) :: aftsAt vs ns) ++ r) := Ent.pure h
  exact (e1.trans Ent.all).trans (Ent.ex (f := fun vs : List Value => HP.all (HP.pure (vs.length = ns.length) :: row 32 7 v ns.length (nodesV ns vs) :: aftsAt vs ns)) vs)

theorem At.openNodes {E : Env} {n : Nat} {D : List Deferred} {ts : List (Nat × Value)} {l r : List HP} {K : Act → World → Prop} {v : Value} {ns : List FK.Node} (s : Sel (nodesOwn v ns) l r)
    (h : ∀ vs : List Value, vs.length = ns.length → At E n D ts (row 32 7 v ns.length (nodesV ns vs) :: (aftsAt vs ns ++ r)) K) : At E n D ts l K := fun a w f hw => by
  obtain ⟨F1, F2, h1, h2, hd, ⟨vs, hp⟩, hl⟩ := (hw.sel s).star
  obtain ⟨F3, F4, h3, h4, hd', hlen, hp⟩ := hp
  refine h vs hlen a w f ⟨hw.is, ?_⟩
  exact Star.join (l := row 32 7 v ns.length (nodesV ns vs) :: aftsAt vs ns) (F1 := F1) (F2 := F2) h1 h2 hd (Star.mono h4 hp) hl
end Go.Proofs.YtagkobkmaigfcaaDoor

/- Deferred calls and recover; structs that are built. -/
namespace Go.SL
open Go Go.RowKit
section
variable {P : Program} {G : Env → Prop} {E : Env} {n : Nat} {D : List Deferred} {ts : List (Nat × Value)} {l : List HP} {ops : Array Oper} {Q : Exit → Act → World → Prop} {rest : List Oper} {i : Nat} {ty : TypeId} {pos : String} {af : Array Edge} {g : Option (Nat × Bool)}

/-! ### structs that are built -/
def placesOf (P : Program) : List Field → Option (List (Nat × Nat))
  | [] => some []
  | f :: fs => match P.info? f.type, placesOf P fs with
    | some i, some r => some ((f.offset, i.size) :: r)
    | _, _ => none

theorem run_places {w : World} : ∀ {fs : List Field} {pl : List (Nat × Nat)}, placesOf P fs = some pl → (fs.mapM fun f => (do pure (f.offset, ← sizeOf f.type) : Sem (Nat × Nat))).run P w = .ok pl w
  | [], pl, h => by simp [placesOf] at h; subst h; simp
  | f :: fs, pl, h => by
    simp only [placesOf] at h
    split at h
    · rename_i i r hi hr
      injection h with h
      subst h
      have hsz : (sizeOf f.type).run P w = .ok i.size w := by simp [sizeOf, typeInfo, hi]
      rw [List.mapM_cons]
      simp only [Sem.run_bind, hsz, Result.andThen_ok, Sem.run_pure, run_places hr]
    · cases h

theorem ev_build {t : TypeId} {fs : Array Field} {pl : List (Nat × Nat)} {z : Value} {ps : List (Nat × Operand)} {vs : List Value} {cs : Array Value} (hu : P.underlying t = some (.struct fs)) (hp : placesOf P fs.toList = some pl) (hz : zeroIs P t z)
    (hx : evs ts (ps.map (·.2)) = some vs) (hf : Instr.fill (pl.toArray[·]?) z.cells ((ps.map (·.1)).zip vs) = some cs) : Ev P ts (.build t ps.toArray) (.agg cs) Any := by
  intro a w _ _ _ _ _ kn _
  have he : (ps.toArray.map fun p => (p.1, a.eval p.2)).toList = (ps.map (·.1)).zip vs := by
    have := evs_eval kn hx
    rw [← this]
    simp
    clear hx hf this
    induction ps with
    | nil => rfl
    | cons p ps ih => simp; exact ih
  simp only [execOp, Instr.build, Sem.run_bind, run_zeroIs hz, run_underlying hu, Result.andThen_ok, Array.mapM_eq_mapM_toList, Sem.run_map, run_places hp, he]
  simp only [Result.andThen_ok, hf, Sem.run_pure]

/-! ### what is deferred -/
/-- a deferred call's contract: the frame below is in the mode u; behind it in u' -/
def DoesD (P : Program) (G : Env → Prop) (f : FuncId) (args : Array Value) (u u' : FrameMode) (pre : List HP) (R : List HP → Prop) : Prop :=
  ∀ E w fr, G E → Holds E w (pre ++ fr) → CallsD P f args u w fun e u'' w' => e = .returned (.tuple #[]) ∧ u'' = u' ∧ ∃ m, R m ∧ Holds E w' (m ++ fr)

/-- what a body that defers must come to -/
def EndsF (P : Program) (fn : Func) (E : Env) (fr : List HP) (R : Value → List HP → Prop) : Exit → Act → World → Prop :=
  bodyPostD P fn fun e w' => ∃ v m, e = .returned v ∧ R v m ∧ Holds E w' (m ++ fr)

theorem Does.bodyF {f : FuncId} {fn : Func} {c : Code} {args : List Value} {pre : List HP} {R : Value → List HP → Prop} (hf : P.funcs[f]? = some fn) (hb : fn.body = some c) (hn : Nat.ble args.length fn.ntmps = true)
    (h : ∀ E fr, G E → At E fn.ntmps [] (argSlots 0 args) (pre ++ fr) (c.wp P (EndsF P fn E fr R))) : Does P G f args.toArray pre R := by
  intro E w fr hE hw
  refine calls_of_wp_defers hf hb (h E fr hE _ _ ⟨?_, rfl, ?_⟩ hw)
  · have := Nat.le_of_ble_eq_true hn
    simp; omega
  · intro i v hi
    obtain ⟨_, h2⟩ := argSlots_get args 0 i v hi
    rw [Nat.sub_zero] at h2
    have hlt : i < args.length := (List.getElem?_eq_some_iff.1 h2).1
    simp [Array.getElem?_append, hlt, (List.getElem?_eq_some_iff.1 h2).2]

theorem o_defer {x : Operand} {f : FuncId} {first cap : Array Value} {K : Act → World → Prop} (hx : ev ts x = some (.func (.func f) first cap)) (h : At E n ({ target := .fn (.func f) cap, args := first } :: D) ts l K) :
    At E n D ts l (fun a w => (Oper.mk none (.defer { callee := .value x, args := #[], argTypes := #[] }) ty pos af g).wp P a w K Q) := fun a w ft hw => by
  have hr : (execOp a.eval (Oper.mk none (.defer { callee := .value x, args := #[], argTypes := #[] }) ty pos af g)).run P w = .ok (.defer { target := .fn (.func f) cap, args := first }) w := by
    simp [execOp, resolve, Deferred.ofValue, ft.eval hx]
  show (Oper.mk none (.defer { callee := .value x, args := #[], argTypes := #[] }) ty pos af g).wp P a w K Q
  unfold Oper.wp
  rw [hr]
  exact h _ w ⟨ft.size, by simp [Act.put, ft.defers], fun i v hi => ft.get i v hi⟩ hw

/-- the door: the one deferred call, of a body that returns -/
theorem At.leave {fn : Func} {fr l' : List HP} {R : Value → List HP → Prop} {f : FuncId} {first cap : Array Value} {pre : List HP} {Rd : List HP → Prop} {u' : FrameMode} {e : Exit} (he : e = .ret ∨ e = .normal) (hu : settle u' = .returning) (hb : hasBody P f = true) (hE : G E)
    (hs : DoesD P G f (first ++ cap) .returning u' pre Rd) (hl : Ent l (pre ++ l')) (h : ∀ m, Rd m → At E n [] ts (m ++ l') (Ends P fn E fr R .ret)) : At E n [{ target := .fn (.func f) cap, args := first }] ts l (EndsF P fn E fr R e) := fun a w ft hw => by
  have key : Leaves P fn a.tmps (fun e w' => ∃ v m, e = .returned v ∧ R v m ∧ Holds E w' (m ++ fr)) a.defers .returning w := by
    rw [ft.defers]
    refine leaves_cons (f := f) (args := first ++ cap) (by simp) (by simp [invoke, run_callFunc hb]) ((hs E w l' hE (hw.ent hl)).mono ?_)
    rintro e u'' w' ⟨rfl, rfl, m, hm, hh⟩
    simp only [hu]
    obtain ⟨_, v, hr, hx⟩ := h m hm { a with defers := [] } w' ⟨ft.size, rfl, ft.get⟩ hh
    exact ⟨v, hr, hx⟩
  rcases he with rfl | rfl <;> exact key
/-- the door, of a body that panics -/
theorem At.leaveX {fn : Func} {fr l' : List HP} {R : Value → List HP → Prop} {f : FuncId} {first cap : Array Value} {pre : List HP} {Rd : List HP → Prop} {u' : FrameMode} {c : List PanicEntry} (hu : settle u' = .returning) (hb : hasBody P f = true) (hE : G E)
    (hs : DoesD P G f (first ++ cap) (.panicking c) u' pre Rd) (hl : Ent l (pre ++ l')) (h : ∀ m, Rd m → At E n [] ts (m ++ l') (Ends P fn E fr R .ret)) : At E n [{ target := .fn (.func f) cap, args := first }] ts l (EndsF P fn E fr R (.panic c)) := fun a w ft hw => by
  show Leaves P fn a.tmps (fun e w' => ∃ v m, e = .returned v ∧ R v m ∧ Holds E w' (m ++ fr)) a.defers (.panicking c) w
  rw [ft.defers]
  refine leaves_cons (f := f) (args := first ++ cap) (by simp) (by simp [invoke, run_callFunc hb]) ((hs E w l' hE (hw.ent hl)).mono ?_)
  rintro e u'' w' ⟨rfl, rfl, m, hm, hh⟩
  simp only [hu]
  obtain ⟨_, v, hr, hx⟩ := h m hm { a with defers := [] } w' ⟨ft.size, rfl, ft.get⟩ hh
  exact ⟨v, hr, hx⟩

/-- a closure that recovers first of all -/
theorem DoesD.recover {f : FuncId} {fn : Func} {c : Code} {id d : Nat} {args : List Value} {u u' : FrameMode} {v : Value} {pre : List HP} {R : List HP → Prop} (hf : P.funcs[f]? = some fn)
    (hb : fn.body = some (.seq (.region id #[⟨some d, .call { callee := .builtin .recover, args := #[], argTypes := #[] }, ty, pos, af, none⟩] false) c)) (hn : Nat.ble args.length fn.ntmps = true) (hd : Nat.blt d fn.ntmps = true)
    (hu : (u = .returning ∧ u' = .returning ∧ v = .nilIface) ∨ ∃ older, u = .panicking ({ v := v, recovered := false } :: older) ∧ u' = .panicking ({ v := v, recovered := true } :: older))
    (h : ∀ E fr, G E → At E fn.ntmps [] ((d, v) :: argSlots 0 args) (pre ++ fr) (c.wp P (Ends P fn E fr fun v m => v = .tuple #[] ∧ R m))) : DoesD P G f args.toArray u u' pre R := by
  intro E w fr hE hw
  refine callsD_of_wpS hf hb fun c₀ cs hc => ?_
  have hfit : Fits fn.ntmps [] (argSlots 0 args) { tmps := args.toArray ++ Array.replicate (fn.ntmps - args.toArray.size) undef, defers := [] } := by
    refine ⟨?_, rfl, ?_⟩
    · have := Nat.le_of_ble_eq_true hn
      simp; omega
    · intro i v hi
      obtain ⟨_, h2⟩ := argSlots_get args 0 i v hi
      rw [Nat.sub_zero] at h2
      have hlt : i < args.length := (List.getElem?_eq_some_iff.1 h2).1
      simp [Array.getElem?_append, hlt, (List.getElem?_eq_some_iff.1 h2).2]
  have hk := h E fr hE _ w (hfit.put d (Nat.le_of_ble_eq_true hd) v) hw
  have hrest : ∀ c₁ : Frame, c₁ = { c₀ with mode := u' } → c.wpS P (bodyPostS P fn c₀ cs fun e u'' w' => e = .returned (.tuple #[]) ∧ u'' = u' ∧ ∃ m, R m ∧ Holds E w' (m ++ fr)) (({ tmps := args.toArray ++ Array.replicate (fn.ntmps - args.toArray.size) undef, defers := [] } : Act).put (some d) v) (c₁ :: cs) w := by
    rintro c₁ rfl
    refine wpS_of_wp (Code.wp_mono ?_ hk)
    intro e a w' hq
    cases e with
    | normal => exact let ⟨h1, v, h2, v', m, h3, ⟨h4, h5⟩, h6⟩ := hq; ⟨h1, u', rfl, v, h2, by rw [h3, h4], rfl, m, h5, h6⟩
    | ret => exact let ⟨h1, v, h2, v', m, h3, ⟨h4, h5⟩, h6⟩ := hq; ⟨h1, u', rfl, v, h2, by rw [h3, h4], rfl, m, h5, h6⟩
    | panic c => exact let ⟨_, v', m, h3, _⟩ := hq; by cases h3
    | exit _ => exact hq.elim
    | goto _ => exact hq.elim
    | outgrown => exact let ⟨v', m, h3, _⟩ := hq; by cases h3
  apply wpS_seq
  apply wpS_region
  have hex : ∀ (a : Act) (w : World), (execOp a.eval ⟨some d, .call { callee := .builtin .recover, args := #[], argTypes := #[] }, ty, pos, af, none⟩).run P w = .ok .recover w := fun a w => by
    simp [execOp, resolve, invoke, builtin]
  simp only [List.size_toArray, List.length_cons, List.length_nil, Nat.zero_add, List.range_one, wpOpsS, List.getElem?_toArray, List.getElem?_cons_zero, Region.wanted, if_true, hex]
  rcases hu with ⟨rfl, rfl, rfl⟩ | ⟨older, rfl, rfl⟩
  · have hrec : recoverD (c₀ :: cs) = none := by simp [recoverD, hc]
    simp only [hrec, Exit.thenS]
    exact hrest c₀ (by cases c₀; simp_all)
  · have hrec : recoverD (c₀ :: cs) = some (v, { c₀ with mode := .panicking ({ v := v, recovered := true } :: older) } :: cs) := by simp [recoverD, hc]
    simp only [hrec, Exit.thenS]
    exact hrest _ rfl
end
end Go.SL

/- Operations behind guards of either word ('a && b', 'a || b'): words that stay open. -/
namespace Go.SL
open Go Go.RowKit
section
variable {P : Program} {E : Env} {n : Nat} {D : List Deferred} {ts : List (Nat × Value)} {l : List HP} {ops : Array Oper} {Q : Exit → Act → World → Prop} {rest : List Oper} {i : Nat} {ty : TypeId} {pos : String} {af : Array Edge}

/-- what a guarded operation leaves -/
def gv (k : Bool) (v : Value) : Value := if k then v else undef

/-- a word, by a name of its own -/
theorem L.bool {op : Op} {d : Bool} {φ : World → Prop} (hi : Nat.blt i n = true) (hev : Ev P ts op (.bool d) φ) (hφ : ∀ w, Holds E w l → φ w) (h : ∀ c : Bool, c = d → At E n D ((i, .bool c) :: ts) l (wpList P ops Q rest)) :
    At E n D ts l (wpList P ops Q (⟨some i, op, ty, pos, af, none⟩ :: rest)) := L.val hi hev hφ (h d rfl)

/-- what is known, as it hangs on a word -/
def AtT (E : Env) (n : Nat) (D : List Deferred) (T : Bool → List (Nat × Value)) (c : Bool) (l : List HP) (K : Act → World → Prop) : Prop := At E n D (T c) l K
theorem L.abs {T : Bool → List (Nat × Value)} {K : Act → World → Prop} (c : Bool) (hT : ts = T c) (h : AtT E n D T c l K) : At E n D ts l K := by
  subst hT
  exact h

/-- an operation behind a guard: it is run if the word c is b -/
theorem L.g {T : Bool → List (Nat × Value)} {c : Bool} {op : Op} {v : Value} {φ : World → Prop} {j t : Nat} {b : Bool} (hi : Nat.blt i n = true) (ht : (ops[j]?).bind (·.dst) = some t) (hv : ∀ c, look t (T c) = some (.bool c)) (hev : Ev P (T b) op v φ) (hφ : ∀ w, Holds E w l → φ w)
    (h : At E n D ((i, gv (c == b) v) :: T c) l (wpList P ops Q rest)) : AtT E n D T c l (wpList P ops Q (⟨some i, op, ty, pos, af, some (j, b)⟩ :: rest)) := by
  unfold AtT
  by_cases hc : c = b
  · subst hc
    refine L.on rfl ht (hv c) (L.vala hi hev hφ ?_)
    have : gv (c == c) v = v := by simp [gv]
    rwa [this] at h
  · have hcb : c = !b := by cases c <;> cases b <;> simp_all
    refine L.off rfl hi rfl ht (hv c) hcb ?_
    have : gv (c == b) v = undef := by simp [gv, hc]
    rwa [this] at h

/-- a cell written, by the model's own function -/
theorem o_extSet1 {g : Option (Nat × Bool)} {f : FuncId} {xs : List Operand} {at_ : Array TypeId} {args : List Value} {b j : Nat} {tb : TypeId} {cs : Array Value} {u v : Value} {r : List HP} {φ : World → Prop} {K : Act → World → Prop} [hh : Has b l (.cells cs tb) r] (hi : Nat.blt i n = true) (hx : evs ts xs = some args) (hφ : ∀ w, Holds E w l → φ w)
    (hr : ∀ w, φ w → w.heap[b]? = some (.cells cs tb) → (callFunc f args.toArray).run P w = .ok (.value u) (w.setCell ⟨b, j, none⟩ v))
    (h : At E n D ((i, u) :: ts) (blk b tb (cs.setIfInBounds j v) :: r) K) : At E n D ts l (fun a w => (Oper.mk (some i) (.call { callee := .value (.func f), args := xs.toArray, argTypes := at_ }) ty pos af g).wp P a w K Q) := fun a w ft hw => by
  have h1 := evs_eval ft.knows hx
  have : (execOp a.eval (Oper.mk (some i) (.call { callee := .value (.func f), args := xs.toArray, argTypes := at_ }) ty pos af g)).run P w = .ok (.value u) (w.setCell ⟨b, j, none⟩ v) := by
    simp [execOp, resolve, Deferred.ofValue, Act.eval, invoke, h1, hr w (hφ w hw) (hw.ob hh.sel).1]
  show (Oper.mk (some i) (.call { callee := .value (.func f), args := xs.toArray, argTypes := at_ }) ty pos af g).wp P a w K Q
  unfold Oper.wp
  rw [this]
  exact h _ _ (ft.put i (Nat.le_of_ble_eq_true hi) u) (hw.store hh.sel)

theorem ev_pickAnd {c x y : Operand} {b d : Bool} (hc : ev ts c = some (.bool b)) (hx : ev ts x = some (gv (b == true) (.bool d))) (hy : ev ts y = some (.bool false)) : Ev P ts (.pick c x y) (.bool (b && d)) Any := by
  have := ev_pick (P := P) hc hx hy
  cases b <;> exact this
theorem ev_pickOr {c x y : Operand} {b d : Bool} (hc : ev ts c = some (.bool b)) (hx : ev ts x = some (.bool true)) (hy : ev ts y = some (gv (b == false) (.bool d))) : Ev P ts (.pick c x y) (.bool (b || d)) Any := by
  have := ev_pick (P := P) hc hx hy
  cases b <;> exact this
end
end Go.SL

/- Stores into rows that are owned. -/
namespace Go.SL
open Go Go.RowKit

/-- some values of a list turned -/
def lset {α : Type} : List α → Nat → List α → List α
  | xs, _, [] => xs
  | xs, o, v :: vs => lset (xs.set o v) (o + 1) vs

theorem lset_length {α : Type} : ∀ (vs xs : List α) (o : Nat), (lset xs o vs).length = xs.length
  | [], _, _ => rfl
  | v :: vs, xs, o => by simp [lset, lset_length vs]
theorem lset_off {α : Type} : ∀ (vs xs : List α) (o j : Nat), (j < o ∨ o + vs.length ≤ j) → (lset xs o vs)[j]? = xs[j]?
  | [], _, _, _, _ => rfl
  | v :: vs, xs, o, j, h => by
    simp only [lset]
    rw [lset_off vs (xs.set o v) (o + 1) j (by simp at h; omega), List.getElem?_set_ne (by simp at h; omega)]
theorem lset_in {α : Type} : ∀ (vs xs : List α) (o j : Nat) (u : α), o + vs.length ≤ xs.length → vs[j]? = some u → (lset xs o vs)[o + j]? = some u
  | [], _, _, _, _, _, h => by simp at h
  | v :: vs, xs, o, 0, u, hl, h => by
    simp at h hl; subst h
    simp only [lset]
    rw [lset_off vs (xs.set o v) (o + 1) (o + 0) (by omega)]
    simp only [Nat.add_zero] at hl ⊢
    exact List.getElem?_set_self (by omega)
  | v :: vs, xs, o, j + 1, u, hl, h => by
    simp only [lset]
    have := lset_in vs (xs.set o v) (o + 1) j u (by simp at hl ⊢; omega) (by simpa using h)
    rw [show o + (j + 1) = o + 1 + j by omega]
    exact this
theorem lset_take {α : Type} : ∀ (vs xs : List α) (o k : Nat), (lset xs o vs).take k = lset (xs.take k) o vs
  | [], _, _, _ => rfl
  | v :: vs, xs, o, k => by simp only [lset]; rw [lset_take vs, List.take_set]
theorem setRow_list : ∀ (vs : List Value) (cs : Array Value) (o : Nat), (setRow cs o vs).toList = lset cs.toList o vs
  | [], _, _ => rfl
  | v :: vs, cs, o => by simp only [setRow, lset]; rw [setRow_list vs]; simp

section
variable {P : Program} {E : Env} {n : Nat} {D : List Deferred} {ts : List (Nat × Value)} {l : List HP} {ops : Array Oper} {Q : Exit → Act → World → Prop} {ty : TypeId} {pos : String} {af : Array Edge} {gd : Option (Nat × Bool)}

/-- one cell of a row -/
theorem o_storeRow {t e : TypeId} {x y : Operand} {g o m c size : Nat} {v : Value} {xs : List Value} {r : List HP} {K : Act → World → Prop} (s : Sel (row e size (.slice (some ⟨g, 0, none⟩) m c) m xs) l r) (hz : sizeIs P t 1) (hx : ev ts x = some (.pointer (some ⟨g, o, none⟩))) (hy : ev ts y = some v) (hv : v.oneCell' = true)
    (ho : o < m * size) (h : At E n D ts (row e size (.slice (some ⟨g, 0, none⟩) m c) m (xs.set o v) :: r) K) : At E n D ts l (fun a w => (Oper.mk none (.store t x y) ty pos af gd).wp P a w K Q) := by
  refine At.openRow s (fun h _ _ => by cases h) ?_
  intro g' cap cur hg _ hm hc hs ht
  injection hg with hg _ hcap
  injection hg with hg
  injection hg with hg
  subst hg; subst hcap
  have hoc : o < cur.size := by rw [hs]; exact Nat.lt_of_lt_of_le ho (Nat.mul_le_mul_right _ hm)
  refine o_store1 rfl hz hx hy hv hoc (At.ent (Ent.closeRow hm hc (by rw [Array.size_setIfInBounds]; exact hs) ?_) h)
  rw [Array.toList_setIfInBounds, List.take_set, ht]
/-- some cells of a row -/
theorem o_storeRowN {t e : TypeId} {x y : Operand} {g o m c size k : Nat} {vs xs : List Value} {r : List HP} {K : Act → World → Prop} (s : Sel (row e size (.slice (some ⟨g, 0, none⟩) m c) m xs) l r) (hz : sizeIs P t k) (hk : vs.length = k) (hx : ev ts x = some (.pointer (some ⟨g, o, none⟩))) (hy : ev ts y = some (.agg vs.toArray)) (hv : ∀ u ∈ vs, u.oneCell' = true)
    (ho : o + k ≤ m * size) (h : At E n D ts (row e size (.slice (some ⟨g, 0, none⟩) m c) m (lset xs o vs) :: r) K) : At E n D ts l (fun a w => (Oper.mk none (.store t x y) ty pos af gd).wp P a w K Q) := by
  refine At.openRow s (fun h _ _ => by cases h) ?_
  intro g' cap cur hg _ hm hc hs ht
  injection hg with hg _ hcap
  injection hg with hg
  injection hg with hg
  subst hg; subst hcap
  have hoc : o + k ≤ cur.size := by rw [hs]; exact Nat.le_trans ho (Nat.mul_le_mul_right _ hm)
  refine o_storeN rfl hz hx hy hk hv (by omega) (At.ent (Ent.closeRow hm hc (by rw [setRow_size]; exact hs) ?_) h)
  rw [setRow_list, lset_take, ht]
end
end Go.SL

/- Maps whose keys are integers, as lists in the order in which the keys came. -/
namespace Go.SL
open Go Go.RowKit

/-- what lies in a map's object -/
def MapIs (k : IntKind) (b : Nat) (m : List (Int × Value)) (w : World) : Prop := ∃ es clock, w.heap[b]? = some (.map es clock) ∧ es.toList.map (fun e => (e.key, e.val)) = m.map fun p => (Value.int k p.1, p.2)
/-- a map that is owned -/
def imap (k : IntKind) (b : Nat) (m : List (Int × Value)) : HP where
  sat w F := F b ∧ MapIs k b m w
  loc hFG hk h := ⟨hFG _ h.1, let ⟨es, c, h1, h2⟩ := h.2; ⟨es, c, (hk _ h.1).trans h1, h2⟩⟩

def assoc (m : List (Int × Value)) (x : Int) : Option Value := (m.find? (·.1 == x)).map (·.2)

theorem map_erase {α β : Type} (f : α → β) : ∀ (l : List α) (j : Nat), (l.eraseIdx j).map f = (l.map f).eraseIdx j
  | [], _ => rfl
  | _ :: _, 0 => rfl
  | _ :: l, j + 1 => by simp [map_erase f l j]

theorem findNow_int {k : IntKind} {x : Int} : ∀ {es : List MapEntry} {m : List (Int × Value)} {i : Nat}, es.map (fun e => (e.key, e.val)) = m.map (fun p => (Value.int k p.1, p.2)) →
    Instr.findNow (.int k) (.int k x) es i = some ((m.findIdx? (·.1 == x)).map fun j => (i + j, ((m[j]?).map (·.2)).getD undef))
  | [], [], _, _ => rfl
  | [], _ :: _, _, h => by cases h
  | _ :: _, [], _, h => by cases h
  | e :: es, p :: m, i, h => by
    simp only [List.map_cons, List.cons.injEq, Prod.mk.injEq] at h
    obtain ⟨⟨h1, h2⟩, h3⟩ := h
    have ih := findNow_int (k := k) (x := x) (i := i + 1) h3
    simp only [Instr.findNow, h1, Instr.sameNow, if_true, List.findIdx?_cons]
    by_cases hx : p.1 = x
    · subst hx
      simp [h2]
    · have h4 : (x == p.1) = false := by simp; exact fun h => hx h.symm
      have h5 : (p.1 == x) = false := by simp [hx]
      simp only [h4, h5, Bool.false_eq_true, if_false]
      rw [ih]
      cases m.findIdx? (·.1 == x) with
      | none => rfl
      | some j => simp; omega

section
variable {P : Program} {E : Env} {n : Nat} {D : List Deferred} {ts : List (Nat × Value)} {l : List HP} {ops : Array Oper} {Q : Exit → Act → World → Prop} {i : Nat} {ty : TypeId} {pos : String} {af : Array Edge} {g : Option (Nat × Bool)}

theorem run_findInt {t : TypeId} {k : IntKind} (ht : P.underlying t = some (.int k)) {es : List MapEntry} {m : List (Int × Value)} (h : es.map (fun e => (e.key, e.val)) = m.map (fun p => (Value.int k p.1, p.2))) (x : Int) (w : World) :
    (Instr.findKey t (.int k x) es).run P w = .ok ((m.findIdx? (·.1 == x)).map fun j => (j, ((m[j]?).map (·.2)).getD undef)) w := by
  have := findNow_int (x := x) (i := 0) h
  simp only [Nat.zero_add] at this
  exact MapKept.run_findKey ht this

theorem findIdx_assoc (m : List (Int × Value)) (x : Int) : ((m.findIdx? (·.1 == x)).map fun j => ((m[j]?).map (·.2)).getD undef) = assoc m x := by
  unfold assoc
  induction m with
  | nil => rfl
  | cons p m ih =>
    simp only [List.findIdx?_cons, List.find?_cons]
    by_cases hx : p.1 = x
    · simp [hx]
    · have h5 : (p.1 == x) = false := by simp [hx]
      simp only [h5, Bool.false_eq_true, if_false]
      rw [← ih]
      cases m.findIdx? (·.1 == x) with
      | none => rfl
      | some j => simp

/-- a key looked up -/
theorem ev_look {t kt et : TypeId} {x y : Operand} {k : IntKind} {b : Nat} {m : List (Int × Value)} {a : Int} {z : Value} (ht : P.underlying t = some (.map kt et)) (hk : P.underlying kt = some (.int k)) (hz : zeroIs P et z) (hx : ev ts x = some (.map (some b))) (hy : ev ts y = some (.int k a)) :
    Ev P ts (.lookup t x y true) (.tuple #[(assoc m a).getD z, .bool (assoc m a).isSome]) (MapIs k b m) := by
  intro ac w _ _ _ _ _ kn ⟨es, c, hb, hm⟩
  have h1 := run_findInt (P := P) hk hm a w
  have h2 := findIdx_assoc m a
  have hg := MapKept.run_getObj_map (P := P) hb
  have hc : ∀ e, (Instr.checkKey e 10000 kt (.int k a)).run P w = .ok () w := fun e => MapKept.run_checkKey (k := .int k a) hk (by simp [MapKept.IsKey]) e 9999
  simp only [execOp, kn.eval hx, kn.eval hy, Instr.lookup, Sem.run_bind, run_underlying ht, Result.andThen_ok, hg, hc, h1, Sem.run_pure]
  cases hf : m.findIdx? (·.1 == a) with
  | none =>
    rw [hf] at h2
    simp only [Option.map_none] at h2
    simp [← h2, run_zeroIs hz]
  | some j =>
    rw [hf] at h2
    simp only [Option.map_some] at h2
    simp [← h2]

theorem imapIs {k : IntKind} {b : Nat} {m : List (Int × Value)} {r : List HP} (s : Sel (imap k b m) l r) : ∀ w, Holds E w l → MapIs k b m w := fun w hw => by
  obtain ⟨F1, _, _, _, _, hp, _⟩ := (hw.sel s).star
  exact hp.2

/-- an object of a map turned -/
theorem Holds.setMap {k : IntKind} {b : Nat} {m m' : List (Int × Value)} {r : List HP} {w : World} {es : Array MapEntry} {c : Nat} (hw : Holds E w (imap k b m :: r)) (hes : es.toList.map (fun e => (e.key, e.val)) = m'.map fun p => (Value.int k p.1, p.2)) :
    Holds E { w with heap := w.heap.setIfInBounds b (.map es c) } (imap k b m' :: r) := by
  refine hw.turn rfl rfl rfl (by simp) fun F1 hp hF => ⟨F1, fun k hk => ⟨.inl hk, by simpa using (hF k hk).1⟩, ⟨hp.1, es, c, ?_, hes⟩, fun k _ hk => ?_⟩
  · have := (hF b hp.1).1
    simp [this]
  · have : k ≠ b := fun h => by subst h; exact hk hp.1
    simp [Array.getElem?_setIfInBounds_ne (Ne.symm this)]

/-- a new key -/
theorem o_mapNew {t kt et : TypeId} {x y z : Operand} {k : IntKind} {b : Nat} {m : List (Int × Value)} {a : Int} {v : Value} {r : List HP} {d : Option Tmp} {K : Act → World → Prop} (hd : d = none) (ht : P.underlying t = some (.map kt et)) (hk : P.underlying kt = some (.int k)) (hx : ev ts x = some (.map (some b))) (hy : ev ts y = some (.int k a)) (hz : ev ts z = some v)
    (s : Sel (imap k b m) l r) (hn : assoc m a = none) (h : At E n D ts (imap k b (m ++ [(a, v)]) :: r) K) : At E n D ts l (fun ac w => (Oper.mk d (.mapUpdate t x y z) ty pos af g).wp P ac w K Q) := fun ac w f hw => by
  subst hd
  have hw' := hw.sel s
  obtain ⟨es, c, hb, hm⟩ := imapIs .head w hw'
  have h1 := run_findInt (P := P) hk hm a w
  have h2 := findIdx_assoc m a
  have hg := MapKept.run_getObj_map (P := P) hb
  have hc : ∀ e, (Instr.checkKey e 10000 kt (.int k a)).run P w = .ok () w := fun e => MapKept.run_checkKey (k := .int k a) hk (by simp [MapKept.IsKey]) e 9999
  have hf : m.findIdx? (·.1 == a) = none := by
    cases hf : m.findIdx? (·.1 == a) with
    | none => rfl
    | some j => rw [hf, hn] at h2; simp at h2
  rw [hf] at h1
  have hs := MapKept.run_setObj_map (P := P) (.map (es.push { key := .int k a, val := v, born := c }) (c + 1)) hb
  have hr : (execOp ac.eval (Oper.mk none (.mapUpdate t x y z) ty pos af g)).run P w = .ok .skip { w with heap := w.heap.setIfInBounds b (.map (es.push { key := .int k a, val := v, born := c }) (c + 1)) } := by
    simp only [execOp, f.eval hx, f.eval hy, f.eval hz, Instr.mapUpdate, Sem.run_bind, run_underlying ht, Result.andThen_ok, hg, hc, h1, Option.map_none, hs, Sem.run_pure]
  show (Oper.mk none (.mapUpdate t x y z) ty pos af g).wp P ac w K Q
  unfold Oper.wp
  rw [hr]
  exact h ac _ f (hw'.setMap (by simp [hm]))

/-- a key struck -/
theorem o_mapDel {t kt et : TypeId} {x y : Operand} {k : IntKind} {b : Nat} {m : List (Int × Value)} {a : Int} {r : List HP} {d : Option Tmp} {K : Act → World → Prop} (hd : d = none) (ht : P.underlying t = some (.map kt et)) (hk : P.underlying kt = some (.int k)) (hx : ev ts x = some (.map (some b))) (hy : ev ts y = some (.int k a))
    (s : Sel (imap k b m) l r) (h : At E n D ts (imap k b (m.eraseP (·.1 == a)) :: r) K) : At E n D ts l (fun ac w => (Oper.mk d (.call { callee := .builtin .delete, args := #[x, y], argTypes := #[t, kt] }) ty pos af g).wp P ac w K Q) := fun ac w f hw => by
  subst hd
  have hw' := hw.sel s
  obtain ⟨es, c, hb, hm⟩ := imapIs .head w hw'
  have h1 := run_findInt (P := P) hk hm a w
  have hg := MapKept.run_getObj_map (P := P) hb
  have hc : ∀ e, (Instr.checkKey e 10000 kt (.int k a)).run P w = .ok () w := fun e => MapKept.run_checkKey (k := .int k a) hk (by simp [MapKept.IsKey]) e 9999
  obtain ⟨es', hes', hrun⟩ : ∃ es' : Array MapEntry, es'.toList.map (fun e => (e.key, e.val)) = (m.eraseP (·.1 == a)).map (fun p => (Value.int k p.1, p.2)) ∧ (Builtin.delete_ #[t, kt] ty #[.map (some b), .int k a]).run P w = .ok (.tuple #[]) { w with heap := w.heap.setIfInBounds b (.map es' c) } := by
    cases hf : m.findIdx? (·.1 == a) with
    | none =>
      rw [hf] at h1
      have hs := MapKept.run_setObj_map (P := P) (.map es c) hb
      refine ⟨es, ?_, ?_⟩
      · rw [hm, List.eraseP_of_forall_not]
        intro p hp
        have := List.findIdx?_eq_none_iff.1 hf p hp
        simpa using this
      · simp only [Builtin.delete_, List.getElem?_toArray, List.getElem?_cons_zero, List.getElem?_cons_succ, Sem.run_bind, run_underlying ht, Result.andThen_ok, hg, hc, h1, Option.map_none, hs, Sem.run_pure]
    | some j =>
      rw [hf] at h1
      have hs := MapKept.run_setObj_map (P := P) (.map (es.eraseIdxIfInBounds j) c) hb
      refine ⟨es.eraseIdxIfInBounds j, ?_, ?_⟩
      · have he : (es.eraseIdxIfInBounds j).toList = es.toList.eraseIdx j := by
          unfold Array.eraseIdxIfInBounds
          split
          · simp
          · rename_i hlt
            rw [List.eraseIdx_of_length_le (by simpa using hlt)]
        rw [he, map_erase, hm, ← map_erase, List.eraseP_eq_eraseIdx, hf]
      · simp only [Builtin.delete_, List.getElem?_toArray, List.getElem?_cons_zero, List.getElem?_cons_succ, Sem.run_bind, run_underlying ht, Result.andThen_ok, hg, hc, h1, Option.map_some, hs, Sem.run_pure]
  have hr : (execOp ac.eval (Oper.mk none (.call { callee := .builtin .delete, args := #[x, y], argTypes := #[t, kt] }) ty pos af g)).run P w = .ok (.value (.tuple #[])) { w with heap := w.heap.setIfInBounds b (.map es' c) } := by
    simp [execOp, resolve, invoke, builtin, f.eval hx, f.eval hy, hrun]
  show (Oper.mk none (.call { callee := .builtin .delete, args := #[x, y], argTypes := #[t, kt] }) ty pos af g).wp P ac w K Q
  unfold Oper.wp
  rw [hr]
  exact h ac _ f (hw'.setMap hes')

theorem ev_lenM {t kt et : TypeId} {x : Operand} {k : IntKind} {b : Nat} {m : List (Int × Value)} (ht : P.underlying t = some (.map kt et)) (hx : ev ts x = some (.map (some b))) : Ev P ts (.call { callee := .builtin .len, args := #[x], argTypes := #[t] }) (.int .i64 m.length) (MapIs k b m) := by
  intro a w _ _ _ _ _ kn ⟨es, c, hb, hm⟩
  have hg := MapKept.run_getObj_map (P := P) hb
  have hl : es.size = m.length := by
    have := congrArg List.length hm
    simpa using this
  simp [execOp, resolve, invoke, builtin, Builtin.len_, kn.eval hx, run_underlying ht, goInt, hg, hl]

theorem o_makeMap {t : TypeId} {k : IntKind} {K : Act → World → Prop} (hi : Nat.blt i n = true) (h : ∀ b, At E n D ((i, .map (some b)) :: ts) (imap k b [] :: l) K) : At E n D ts l (fun ac w => (Oper.mk (some i) (.makeMap t none) ty pos af g).wp P ac w K Q) := fun ac w f hw => by
  have hr : (execOp ac.eval (Oper.mk (some i) (.makeMap t none) ty pos af g)).run P w = .ok (.value (.map (some w.heap.size))) (w.alloc (.map #[] 0)) := rfl
  show (Oper.mk (some i) (.makeMap t none) ty pos af g).wp P ac w K Q
  unfold Oper.wp
  rw [hr]
  have h0 := hw.alloc (.map #[] 0)
  refine h _ _ _ (f.put i (Nat.le_of_ble_eq_true hi) _) (h0.ent ?_)
  exact fun w F ⟨F1, F2, h1, h2, hd, hp, hl⟩ => ⟨F1, F2, h1, h2, hd, ⟨hp.1, #[], 0, hp.2, rfl⟩, hl⟩
end
end Go.SL
