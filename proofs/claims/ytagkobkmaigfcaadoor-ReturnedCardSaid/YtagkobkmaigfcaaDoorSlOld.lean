/- Elder worlds, contracts of the elder form, bytes and nodes, as facts of the small logic. -/
import Derived.Test.YtagkobkmaigfcaaDoorSlRow
import Derived.Test.YtagkobkmaigfcaaDoorFlowBytes
namespace Go.SL
open Go Go.RowKit Go.Proofs.YtagkobkmaigfcaaDoor

section
variable {P : Program} {E : Env} {n : Nat} {D : List Deferred} {ts : List (Nat × Value)} {l : List HP} {ops : Array Oper} {Q : Exit → Act → World → Prop} {rest : List Oper} {i : Nat} {ty : TypeId} {pos : String} {af : Array Edge} {g : Option (Nat × Bool)}

/-- a contract that reads: where φ holds a call returns v, and new memory m; all that was stands -/
def Gives (P : Program) (G : Env → Prop) (f : FuncId) (args : Array Value) (φ : World → Prop) (R : Value → List HP → Prop) : Prop :=
  ∀ E w, G E → E.is w → φ w → Calls P f args w fun e w' => ∃ v m, e = .returned v ∧ R v m ∧ Holds E w' (m ++ [old E w])

variable {G : Env → Prop}

theorem Gives.below {f : FuncId} {args : Array Value} {φ : World → Prop} {R : Value → Prop} (h : ∀ E w, G E → E.is w → φ w → Calls P f args w fun e w' => ∃ v, e = .returned v ∧ R v ∧ Below w.heap.size w w') : Gives P G f args φ fun v m => R v ∧ m = [] := fun E w hE hw hφ =>
  (h E w hE hw hφ).mono fun _e _w' ⟨v, he, hR, hb⟩ => ⟨v, [], he, ⟨hR, rfl⟩, (Holds.start hw).below hb⟩
theorem Gives.of_calls {f : FuncId} {args : Array Value} {φ : World → Prop} {v : Value} (h : ∀ E w, G E → E.is w → φ w → Calls P f args w fun e w' => e = .returned v ∧ Below w.heap.size w w') : Gives P G f args φ fun u m => u = v ∧ m = [] :=
  Gives.below fun E w hE hw hφ => (h E w hE hw hφ).mono fun _ _ ⟨he, hb⟩ => ⟨v, he, rfl, hb⟩

/-- the call of a function by such a contract -/
theorem o_give {f : FuncId} {xs : List Operand} {at_ : Array TypeId} {args : List Value} {φ : World → Prop} {R : Value → List HP → Prop} {K : Act → World → Prop} (hi : Nat.blt i n = true) (hb : hasBody P f = true) (hx : evs ts xs = some args) (hE : G E)
    (hs : Gives P G f args.toArray φ R) (hφ : ∀ w, Holds E w l → φ w) (h : ∀ v m, R v m → At E n D ((i, v) :: ts) (m ++ l) K) :
    At E n D ts l (fun a w => (Oper.mk (some i) (.call { callee := .value (.func f), args := xs.toArray, argTypes := at_ }) ty pos af g).wp P a w K Q) := fun a w ft hw => by
  have := evs_eval ft.knows hx
  have hr : (execOp a.eval (Oper.mk (some i) (.call { callee := .value (.func f), args := xs.toArray, argTypes := at_ }) ty pos af g)).run P w = .ok (.enter f args.toArray) w := by
    simp [execOp, resolve, Deferred.ofValue, Act.eval, invoke, this, run_callFunc hb]
  show (Oper.mk (some i) (.call { callee := .value (.func f), args := xs.toArray, argTypes := at_ }) ty pos af g).wp P a w K Q
  unfold Oper.wp
  rw [hr]
  refine (hs E w hE hw.is (hφ w hw)).mono fun e w' ⟨v, m, he, hR, hh⟩ => ?_
  subst he
  exact h v m hR _ w' (ft.put i (Nat.le_of_ble_eq_true hi) v) (Holds.later hw hh)

/-- a body by such a contract -/
theorem Gives.body {f : FuncId} {fn : Func} {c : Code} {args : List Value} {φ : World → Prop} {R : Value → List HP → Prop} (hf : P.funcs[f]? = some fn) (hb : fn.body = some c) (hn : Nat.ble args.length fn.ntmps = true)
    (h : ∀ E w0, G E → E.is w0 → φ w0 → At E fn.ntmps [] (argSlots 0 args) [old E w0] (c.wp P (Ends P fn E [old E w0] R))) : Gives P G f args.toArray φ R := fun E w hE hw hφ => by
  refine calls_of_wp hf hb (h E w hE hw hφ _ _ ⟨?_, rfl, ?_⟩ (Holds.start hw))
  · have := Nat.le_of_ble_eq_true hn
    simp; omega
  · intro i v hi
    obtain ⟨_, h2⟩ := argSlots_get args 0 i v hi
    rw [Nat.sub_zero] at h2
    have hlt : i < args.length := (List.getElem?_eq_some_iff.1 h2).1
    simp [Array.getElem?_append, hlt, (List.getElem?_eq_some_iff.1 h2).2]

/-- facts on an elder world, later -/
theorem oldAt {w0 : World} {r : List HP} {φ : World → Prop} (s : Sel (old E w0) l r) (h0 : E.is w0) (h : ∀ w, Below w0.heap.size w0 w → φ w) : ∀ w, Holds E w l → φ w := fun w hw => h w (hw.old s h0)
theorem cellOld {w0 : World} {r : List HP} {b o : Nat} {v : Value} (s : Sel (old E w0) l r) (h0 : E.is w0) (hv : w0.cell? ⟨b, o, none⟩ = some v) : ∀ w, Holds E w l → CellIs ⟨b, o, none⟩ v w :=
  oldAt s h0 fun w hb => by
    have := World.block_lt_of_cell? _ _ hv
    exact (hb.cell this).trans hv
theorem rowOld {w0 : World} {r : List HP} {b o : Nat} {vs : List Value} (s : Sel (old E w0) l r) (h0 : E.is w0) (hv : ∀ j v, vs[j]? = some v → w0.cell? ⟨b, o + j, none⟩ = some v) : ∀ w, Holds E w l → RowIs b o vs w :=
  oldAt s h0 fun w hb j v hj => by
    have := World.block_lt_of_cell? _ _ (hv j v hj)
    exact (hb.cell this).trans (hv j v hj)

/-- a reader's contract without facts asked is a contract -/
theorem Gives.does {f : FuncId} {args : Array Value} {R : Value → List HP → Prop} (h : Gives P G f args (fun _ => True) R) : Does P G f args [] R := fun E w _fr hE hw =>
  (h E w hE hw.is trivial).mono fun _e _w' ⟨v, m, he, hR, hh⟩ => ⟨v, m, he, hR, Holds.later hw hh⟩
end

end Go.SL
namespace Go.Proofs.YtagkobkmaigfcaaDoor
open Go Go.RowKit Go.SL

variable {G : Env → Prop}

/-- bytes that are owned -/
abbrev bytesAt (v : Value) (l : List UInt8) : HP := row 5 1 v l.length (bytesV l)

theorem fields_does (b : Nat) : Does Tryd.prog G 75 #[.pointer (some ⟨b, 0, none⟩)] [] fun v m => v = .agg (fieldPtrs b 0) ∧ m = [] :=
  (Gives.of_calls (φ := fun _ => True) fun _ w _ _ _ => fields_calls w b).does

theorem does_of_num {f : FuncId} {args : Array Value} {v : Value} {l l' : List UInt8} (h : ∀ w, OwnBytes w 0 v l → Calls Tryd.prog f args w (NumPost w 0 v l')) : Does Tryd.prog G f args [bytesAt v l] fun v' m => m = [bytesAt v' l'] := fun E w fr _ hw => by
  refine (h w (hw.row .head)).mono fun e w' ⟨v', he, hown, hg, hm⟩ => ⟨v', _, he, rfl, ?_⟩
  exact Holds.grown hw hg hown hm

theorem number_does (v : Value) (l : List UInt8) (m : Nat) (hm : m < 18446744073709551616) (hl : l.length ≤ 1099511627776) : Does Tryd.prog G 74 #[v, .int .u64 m] [bytesAt v l] fun v' r => r = [bytesAt v' (l ++ FK.encN m)] :=
  does_of_num fun w ho => flow_Number_calls w 0 v l m hm ho hl (Nat.zero_le _)
theorem refNumber_does (v : Value) (l : List UInt8) (m : Nat) (hm : m < 9223372036854775808) (hl : l.length ≤ 1099511627776) : Does Tryd.prog G 55 #[v, .int .i64 m] [bytesAt v l] fun v' r => r = [bytesAt v' (l ++ FK.encN m)] :=
  does_of_num fun w ho => ref_number_calls w 0 v l m hm ho hl (Nat.zero_le _)

theorem nodesLater {E : Env} {l r : List HP} {w0 : World} {B : Nat} {A : Option Addr} {c : Nat} {ns : List FK.Node} (s : Sel (old E w0) l r) (h0 : E.is w0) (h : NodesAt w0 B A c ns) (hB : B ≤ w0.heap.size) : ∀ w, Holds E w l → NodesAt w w.heap.size A c ns :=
  oldAt s h0 fun _w hb => (h.keep (hb.to_same.mono hB)).more (Nat.le_trans hB hb.size)
end Go.Proofs.YtagkobkmaigfcaaDoor
