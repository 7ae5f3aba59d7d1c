/- errors.As, errors.Is, Told: at no error, at a number, at a fault. -/
import Derived.Test.YtagkobkmaigfcaaDoorAlF
import Derived.Laws.Externs
import Derived.Test.YtagkobkmaigfcaaDoorAlE
import Derived.Deep.Slices
import Derived.Lib.SmallJoins
import Derived.ProofKit
import Derived.OpenShut
import Derived.Test.YtagkobkmaigfcaaDoorCards
import Derived.Test.YtagkobkmaigfcaaDoorTie
import Derived.Deep.DeepHandedRow
import Derived.Lib.LaidTab
import Derived.LaidHandle
namespace Go.Proofs.YtagkobkmaigfcaaDoor
open Go Go.RowKit Go.SL Go.Extern

/-- what is known of the fixed objects: the library's tables -/
structure Good (E : Env) : Prop where
  tab : ∀ w, E.is w → Tab w
  err : ∀ w, E.is w → w.cell? ⟨0, 0, none⟩ = some (.iface 172 (.agg #[.pointer (some ⟨Tryd.prog.globals.size, 71, none⟩)]))

noncomputable abbrev hnd (t : TypeId) : Value := .pointer (some ⟨Tryd.prog.globals.size, t, none⟩)
noncomputable abbrev rt (t : TypeId) : Value := .iface 172 (.agg #[hnd t])
noncomputable abbrev rv (t : TypeId) (b k : Nat) : Value := .agg #[hnd t, .pointer (some ⟨b, 0, none⟩), .int .u64 k]

theorem ext_find {f : FuncId} {fn : Func} {e : Array Value → Sem Value} (hf : Tryd.prog.funcs[f]? = some fn) (hname : (fn.name == "runtime.NumGoroutine") = false) (hb : fn.body.isNone = true) (hn : Extern.findNext fn = none) (he : Extern.find fn = some e)
    {args : Array Value} {w w' : World} {v : Value} (h : (e args).run Tryd.prog w = .ok v w') : (callFunc f args).run Tryd.prog w = .ok (.value v) w' := by
  rw [run_callFunc_extern hf hname hb hn he, h]; rfl

theorem mKind (h : Value) (w : World) : (Go.method (Tryd.prog.types.size + Made.depth) 172 (.agg #[h]) "Kind").run Tryd.prog w = .ok (117, h) w := by kernel_rfl
theorem mElem (h : Value) (w : World) : (Go.method (Tryd.prog.types.size + Made.depth) 172 (.agg #[h]) "Elem").run Tryd.prog w = .ok (130, .agg #[h]) w := by kernel_rfl
theorem mImplements (h : Value) (w : World) : (Go.method (Tryd.prog.types.size + Made.depth) 172 (.agg #[h]) "Implements").run Tryd.prog w = .ok (131, .agg #[h]) w := by kernel_rfl
theorem mAssignableTo (h : Value) (w : World) : (Go.method (Tryd.prog.types.size + Made.depth) 172 (.agg #[h]) "AssignableTo").run Tryd.prog w = .ok (128, .agg #[h]) w := by kernel_rfl
theorem mComparable (h : Value) (w : World) : (Go.method (Tryd.prog.types.size + Made.depth) 172 (.agg #[h]) "Comparable").run Tryd.prog w = .ok (129, .agg #[h]) w := by kernel_rfl
theorem mUnwrap (p : Addr) (w : World) : (Go.method (Tryd.prog.types.size + Made.depth) 95 (.pointer (some p)) "Unwrap").run Tryd.prog w = .ok (123, .pointer (some p)) w := by kernel_rfl

theorem find0 {args : Array Value} {w w' : World} {v : Value} (h : ((fun args => ReflectliteValue.unpack (args.getD 0 (.tuple #[]))) args).run Tryd.prog w = .ok v w') : (callFunc 76 args).run Tryd.prog w = .ok (.value v) w' :=
  ext_find (e := (fun args => ReflectliteValue.unpack (args.getD 0 (.tuple #[])))) Tryd.func76 (by kernel_rfl) (by kernel_rfl) (by kernel_rfl) (by kernel_rfl) h
theorem valueOfPF (t : Nat) (w : World) : (callFunc 76 #[.iface 97 (.pointer (some ⟨t, 0, none⟩))]).run Tryd.prog w = .ok (.value (rv 97 w.heap.size 150)) (w.alloc (.cells #[.pointer (some ⟨t, 0, none⟩)] 97)) := find0 (by kernel_rfl)
theorem valueOfF (e : Addr) (w : World) : (callFunc 76 #[.iface 95 (.pointer (some e))]).run Tryd.prog w = .ok (.value (rv 95 w.heap.size 150)) (w.alloc (.cells #[.pointer (some e)] 95)) := find0 (by kernel_rfl)
theorem find1 {args : Array Value} {w w' : World} {v : Value} (h : ((ReflectliteValue.methodAny (ReflectliteValue.valueError "reflectlite.Value.Type" 0) (fun t _ _ _ => ReflectliteType.toType t)) args).run Tryd.prog w = .ok v w') : (callFunc 77 args).run Tryd.prog w = .ok (.value v) w' :=
  ext_find (e := (ReflectliteValue.methodAny (ReflectliteValue.valueError "reflectlite.Value.Type" 0) (fun t _ _ _ => ReflectliteType.toType t))) Tryd.func77 (by kernel_rfl) (by kernel_rfl) (by kernel_rfl) (by kernel_rfl) h
theorem typePF (b : Nat) (w : World) : (callFunc 77 #[rv 97 b 150]).run Tryd.prog w = .ok (.value (rt 97)) w := find1 (by kernel_rfl)
theorem find2 {args : Array Value} {w w' : World} {v : Value} (h : ((ReflectliteType.abiMethod fun t => (fun a : Nat => Value.int IntKind.u8 (a : Int)) <$> Rtype.kind t) args).run Tryd.prog w = .ok v w') : (callFunc 117 args).run Tryd.prog w = .ok (.value v) w' :=
  ext_find (e := (ReflectliteType.abiMethod fun t => (fun a : Nat => Value.int IntKind.u8 (a : Int)) <$> Rtype.kind t)) Tryd.func117 (by kernel_rfl) (by kernel_rfl) (by kernel_rfl) (by kernel_rfl) h
theorem kindPF (w : World) : (callFunc 117 #[hnd 97]).run Tryd.prog w = .ok (.value (.int .u8 22)) w := find2 (by kernel_rfl)
theorem kindF (w : World) : (callFunc 117 #[hnd 95]).run Tryd.prog w = .ok (.value (.int .u8 22)) w := find2 (by kernel_rfl)
theorem find3 {args : Array Value} {w w' : World} {v : Value} (h : ((ReflectliteType.method ReflectliteType.elem) args).run Tryd.prog w = .ok v w') : (callFunc 130 args).run Tryd.prog w = .ok (.value v) w' :=
  ext_find (e := (ReflectliteType.method ReflectliteType.elem)) Tryd.func130 (by kernel_rfl) (by kernel_rfl) (by kernel_rfl) (by kernel_rfl) h
theorem elemPF (w : World) : (callFunc 130 #[.agg #[hnd 97]]).run Tryd.prog w = .ok (.value (rt 95)) w := find3 (by kernel_rfl)
theorem find4 {args : Array Value} {w w' : World} {v : Value} (h : ((ReflectliteType.relation "Implements" ReflectliteType.implements_) args).run Tryd.prog w = .ok v w') : (callFunc 131 args).run Tryd.prog w = .ok (.value v) w' :=
  ext_find (e := (ReflectliteType.relation "Implements" ReflectliteType.implements_)) Tryd.func131 (by kernel_rfl) (by kernel_rfl) (by kernel_rfl) (by kernel_rfl) h
theorem implementsF (w : World) : (callFunc 131 #[.agg #[hnd 95], rt 71]).run Tryd.prog w = .ok (.value (.bool true)) w := find4 (by kernel_rfl)
theorem find5 {args : Array Value} {w w' : World} {v : Value} (h : (ReflectliteType.typeOf args).run Tryd.prog w = .ok v w') : (callFunc 80 args).run Tryd.prog w = .ok (.value v) w' :=
  ext_find (e := ReflectliteType.typeOf) Tryd.func80 (by kernel_rfl) (by kernel_rfl) (by kernel_rfl) (by kernel_rfl) h
theorem typeOfF (v : Value) (w : World) : (callFunc 80 #[.iface 95 v]).run Tryd.prog w = .ok (.value (rt 95)) w := find5 (by kernel_rfl)
theorem find6 {args : Array Value} {w w' : World} {v : Value} (h : ((ReflectliteType.relation "AssignableTo" ReflectliteType.assignableTo) args).run Tryd.prog w = .ok v w') : (callFunc 128 args).run Tryd.prog w = .ok (.value v) w' :=
  ext_find (e := (ReflectliteType.relation "AssignableTo" ReflectliteType.assignableTo)) Tryd.func128 (by kernel_rfl) (by kernel_rfl) (by kernel_rfl) (by kernel_rfl) h
theorem assignableF (w : World) : (callFunc 128 #[.agg #[hnd 95], rt 95]).run Tryd.prog w = .ok (.value (.bool true)) w := find6 (by kernel_rfl)
theorem find7 {args : Array Value} {w w' : World} {v : Value} (h : ((ReflectliteType.method fun t => do Rtype.noPackHeld "Comparable" t; pure (.bool (← typeInfo t).comparable)) args).run Tryd.prog w = .ok v w') : (callFunc 129 args).run Tryd.prog w = .ok (.value v) w' :=
  ext_find (e := (ReflectliteType.method fun t => do Rtype.noPackHeld "Comparable" t; pure (.bool (← typeInfo t).comparable))) Tryd.func129 (by kernel_rfl) (by kernel_rfl) (by kernel_rfl) (by kernel_rfl) h
theorem comparableF (w : World) : (callFunc 129 #[.agg #[hnd 95]]).run Tryd.prog w = .ok (.value (.bool true)) w := find7 (by kernel_rfl)
theorem valueOfPN (t : Nat) (w : World) : (callFunc 76 #[.iface 101 (.pointer (some ⟨t, 0, none⟩))]).run Tryd.prog w = .ok (.value (rv 101 w.heap.size 150)) (w.alloc (.cells #[.pointer (some ⟨t, 0, none⟩)] 101)) := find0 (by kernel_rfl)
theorem valueOfN (x : Int) (w : World) : (callFunc 76 #[.iface 26 (.int .i64 x)]).run Tryd.prog w = .ok (.value (rv 26 w.heap.size 130)) (w.alloc (.cells #[.int .i64 x] 26)) := find0 (by kernel_rfl)
theorem typePN (b : Nat) (w : World) : (callFunc 77 #[rv 101 b 150]).run Tryd.prog w = .ok (.value (rt 101)) w := find1 (by kernel_rfl)
theorem kindPN (w : World) : (callFunc 117 #[hnd 101]).run Tryd.prog w = .ok (.value (.int .u8 22)) w := find2 (by kernel_rfl)
theorem kindN (w : World) : (callFunc 117 #[hnd 26]).run Tryd.prog w = .ok (.value (.int .u8 2)) w := find2 (by kernel_rfl)
theorem elemPN (w : World) : (callFunc 130 #[.agg #[hnd 101]]).run Tryd.prog w = .ok (.value (rt 26)) w := find3 (by kernel_rfl)
theorem implementsN (w : World) : (callFunc 131 #[.agg #[hnd 26], rt 71]).run Tryd.prog w = .ok (.value (.bool true)) w := find4 (by kernel_rfl)
theorem typeOfN (v : Value) (w : World) : (callFunc 80 #[.iface 26 v]).run Tryd.prog w = .ok (.value (rt 26)) w := find5 (by kernel_rfl)
theorem assignableN (w : World) : (callFunc 128 #[.agg #[hnd 26], rt 26]).run Tryd.prog w = .ok (.value (.bool true)) w := find6 (by kernel_rfl)
theorem comparableN (w : World) : (callFunc 129 #[.agg #[hnd 26]]).run Tryd.prog w = .ok (.value (.bool true)) w := find7 (by kernel_rfl)
theorem assignableNF (w : World) : (callFunc 128 #[.agg #[hnd 26], rt 95]).run Tryd.prog w = .ok (.value (.bool false)) w := find6 (by kernel_rfl)

theorem rlm (z : Sem Value) (f : TypeId → Addr → Nat → Nat → Sem Value) (v : Value) :
    ReflectliteValue.method z f #[v] = (do match ← ReflectliteValue.parts v with | none => z | some (t, a, fl) => f t a fl (fl % 32)) := rfl
theorem rls (v x : Value) : ReflectliteValue.set #[v, x] = (do
    let (some (dst, a, fl), some (src, b, _)) := (← ReflectliteValue.parts v, ← ReflectliteValue.parts x)
      | unsupported (.noEntry "extern/(internal/reflectlite.Value).Set.zeroValue")
    if fl / ReflectliteValue.flagAddr % 2 == 0 then unsupported (.noEntry "extern/(internal/reflectlite.Value).Set.unaddressable")
    let val ← loadVar src b
    if ← Rtype.directlyAssignable dst src then storeVar dst a val
    else if ← Rtype.implements dst src then
      if (← Rtype.kind src) == 20 then
        match val with
        | .nilIface => unsupported (.noEntry "extern/reflectlite: a nil value of one interface type handed on as a value of another")
        | _ => storeVar dst a val
      else storeVar dst a (.iface src val)
    else panicString ("reflectlite.Set: value of type " ++ (← Rtype.spelt src) ++ " is not assignable to type " ++ (← Rtype.spelt dst))
    pure (.tuple #[])) := rfl
theorem findIsNil {args : Array Value} {w w' : World} {v : Value} (h : ((ReflectliteValue.method (ReflectliteValue.valueError "reflectlite.Value.IsNil" 0) ReflectliteValue.isNil) args).run Tryd.prog w = .ok v w') : (callFunc 78 args).run Tryd.prog w = .ok (.value v) w' :=
  ext_find (e := (ReflectliteValue.method (ReflectliteValue.valueError "reflectlite.Value.IsNil" 0) ReflectliteValue.isNil)) Tryd.func78 (by kernel_rfl) (by kernel_rfl) (by kernel_rfl) (by kernel_rfl) h
theorem findElem {args : Array Value} {w w' : World} {v : Value} (h : ((ReflectliteValue.method (ReflectliteValue.valueError "reflectlite.Value.Elem" 0) ReflectliteValue.elem) args).run Tryd.prog w = .ok v w') : (callFunc 95 args).run Tryd.prog w = .ok (.value v) w' :=
  ext_find (e := (ReflectliteValue.method (ReflectliteValue.valueError "reflectlite.Value.Elem" 0) ReflectliteValue.elem)) Tryd.func95 (by kernel_rfl) (by kernel_rfl) (by kernel_rfl) (by kernel_rfl) h
theorem findSet {args : Array Value} {w w' : World} {v : Value} (h : (ReflectliteValue.set args).run Tryd.prog w = .ok v w') : (callFunc 96 args).run Tryd.prog w = .ok (.value v) w' :=
  ext_find (e := ReflectliteValue.set) Tryd.func96 (by kernel_rfl) (by kernel_rfl) (by kernel_rfl) (by kernel_rfl) h

theorem partsPF (b : Nat) (w : World) : (ReflectliteValue.parts (rv 97 b 150)).run Tryd.prog w = .ok (some (97, ⟨b, 0, none⟩, 150)) w := by kernel_rfl
theorem partsAF (b : Nat) (w : World) : (ReflectliteValue.parts (rv 95 b 406)).run Tryd.prog w = .ok (some (95, ⟨b, 0, none⟩, 406)) w := by kernel_rfl
theorem partsVF (b : Nat) (w : World) : (ReflectliteValue.parts (rv 95 b 150)).run Tryd.prog w = .ok (some (95, ⟨b, 0, none⟩, 150)) w := by kernel_rfl
theorem mkF (b : Nat) (w : World) : (ReflectliteValue.mk 95 ⟨b, 0, none⟩ ReflectliteValue.flagAddr).run Tryd.prog w = .ok (rv 95 b 406) w := by kernel_rfl
theorem elemOfF (w : World) : (Rtype.elem? 97).run Tryd.prog w = .ok (some 95) w := by kernel_rfl
theorem directF (w : World) : (Rtype.directlyAssignable 95 95).run Tryd.prog w = .ok true w := by kernel_rfl

/-- is the pointer nil? -/
theorem isNilPF (a p : Nat) (w : World) (ha : CellIs ⟨a, 0, none⟩ (.pointer (some ⟨p, 0, none⟩)) w) : (callFunc 78 #[rv 97 a 150]).run Tryd.prog w = .ok (.value (.bool false)) w :=
  findIsNil (by
    rw [rlm]
    simp only [Sem.run_bind, partsPF, Result.andThen]
    have := run_loadVar1 (P := Tryd.prog) (t := 97) (by kernel_rfl) ha
    simp [ReflectliteValue.isNil, this, Result.andThen])
/-- what it points to -/
theorem elemVF (a p : Nat) (w : World) (ha : CellIs ⟨a, 0, none⟩ (.pointer (some ⟨p, 0, none⟩)) w) : (callFunc 95 #[rv 97 a 150]).run Tryd.prog w = .ok (.value (rv 95 p 406)) w :=
  findElem (by
    rw [rlm]
    simp only [Sem.run_bind, partsPF, Result.andThen]
    have := run_loadVar1 (P := Tryd.prog) (t := 97) (by kernel_rfl) ha
    simp [ReflectliteValue.elem, this, Result.andThen, elemOfF, mkF])
/-- it is set -/
theorem setF (ta b : Nat) (e : Addr) (old : Value) (w : World) (hb : CellIs ⟨b, 0, none⟩ (.pointer (some e)) w) (ht : w.heap[ta]? = some (.cells #[old] 95)) :
    (callFunc 96 #[rv 95 ta 406, rv 95 b 150]).run Tryd.prog w = .ok (.value (.tuple #[])) (w.setCell ⟨ta, 0, none⟩ (.pointer (some e))) :=
  findSet (by
    rw [rls]
    simp only [Sem.run_bind, partsAF, partsVF, Result.andThen]
    have h1 := run_loadVar1 (P := Tryd.prog) (t := 95) (by kernel_rfl) hb
    have h2 := run_store1 (P := Tryd.prog) (i := 0) (v := .pointer (some e)) ht (by simp) rfl
    have h3 := run_sizeIs (P := Tryd.prog) (t := 95) (n := 1) (by unfold sizeIs; kernel_rfl) w
    simp [ReflectliteValue.flagAddr, h1, Result.andThen, directF, storeVar, Value.cells, storeCells, Addr.add, h2, h3])

theorem partsPN (b : Nat) (w : World) : (ReflectliteValue.parts (rv 101 b 150)).run Tryd.prog w = .ok (some (101, ⟨b, 0, none⟩, 150)) w := by kernel_rfl
theorem partsAN (b : Nat) (w : World) : (ReflectliteValue.parts (rv 26 b 386)).run Tryd.prog w = .ok (some (26, ⟨b, 0, none⟩, 386)) w := by kernel_rfl
theorem partsVN (b : Nat) (w : World) : (ReflectliteValue.parts (rv 26 b 130)).run Tryd.prog w = .ok (some (26, ⟨b, 0, none⟩, 130)) w := by kernel_rfl
theorem mkN (b : Nat) (w : World) : (ReflectliteValue.mk 26 ⟨b, 0, none⟩ ReflectliteValue.flagAddr).run Tryd.prog w = .ok (rv 26 b 386) w := by kernel_rfl
theorem elemOfN (w : World) : (Rtype.elem? 101).run Tryd.prog w = .ok (some 26) w := by kernel_rfl
theorem directN (w : World) : (Rtype.directlyAssignable 26 26).run Tryd.prog w = .ok true w := by kernel_rfl

/-- is the pointer nil? -/
theorem isNilPN (a p : Nat) (w : World) (ha : CellIs ⟨a, 0, none⟩ (.pointer (some ⟨p, 0, none⟩)) w) : (callFunc 78 #[rv 101 a 150]).run Tryd.prog w = .ok (.value (.bool false)) w :=
  findIsNil (by
    rw [rlm]
    simp only [Sem.run_bind, partsPN, Result.andThen]
    have := run_loadVar1 (P := Tryd.prog) (t := 101) (by kernel_rfl) ha
    simp [ReflectliteValue.isNil, this, Result.andThen])
/-- what it points to -/
theorem elemVN (a p : Nat) (w : World) (ha : CellIs ⟨a, 0, none⟩ (.pointer (some ⟨p, 0, none⟩)) w) : (callFunc 95 #[rv 101 a 150]).run Tryd.prog w = .ok (.value (rv 26 p 386)) w :=
  findElem (by
    rw [rlm]
    simp only [Sem.run_bind, partsPN, Result.andThen]
    have := run_loadVar1 (P := Tryd.prog) (t := 101) (by kernel_rfl) ha
    simp [ReflectliteValue.elem, this, Result.andThen, elemOfN, mkN])
/-- it is set -/
theorem setN (ta b : Nat) (e : Int) (old : Value) (w : World) (hb : CellIs ⟨b, 0, none⟩ (.int .i64 e) w) (ht : w.heap[ta]? = some (.cells #[old] 26)) :
    (callFunc 96 #[rv 26 ta 386, rv 26 b 130]).run Tryd.prog w = .ok (.value (.tuple #[])) (w.setCell ⟨ta, 0, none⟩ (.int .i64 e)) :=
  findSet (by
    rw [rls]
    simp only [Sem.run_bind, partsAN, partsVN, Result.andThen]
    have h1 := run_loadVar1 (P := Tryd.prog) (t := 26) (by kernel_rfl) hb
    have h2 := run_store1 (P := Tryd.prog) (i := 0) (v := .int .i64 e) ht (by simp) rfl
    have h3 := run_sizeIs (P := Tryd.prog) (t := 26) (n := 1) (by unfold sizeIs; kernel_rfl) w
    simp [ReflectliteValue.flagAddr, h1, Result.andThen, directN, storeVar, Value.cells, storeCells, Addr.add, h2, h3])
end Go.Proofs.YtagkobkmaigfcaaDoor

/- The walks of plain.copied and plain.turn: a flow with lists of its own; these are written into. -/
namespace Go.Proofs.YtagkobkmaigfcaaDoor
open Go Go.RowKit Go.Deep

def intsV (l : List Int) : List Value := l.map (Value.int .i64)
def nodeCells (n : FK.Node) (v : Value) : List Value := [.int .i64 n.budget, .int .i64 n.close, .int .i64 n.beat, .int .i64 n.base, .int .i64 n.cap, .int .i64 n.jitter, v]
def nodesV : List FK.Node → List Value → List Value
  | n :: l, v :: vs => nodeCells n v ++ nodesV l vs
  | _, _ => []

def OwnInts (w : World) (base : Nat) (v : Value) (l : List Int) : Prop := w.ownsRow base 3 1 v l.length (intsV l)

/-- nodes with lists of their own, in memory from 'base' on -/
structure OwnNodes (w : World) (base : Nat) (v : Value) (l : List FK.Node) (vs : List Value) : Prop where
  len : vs.length = l.length
  row : w.ownsRow base 32 7 v l.length (nodesV l vs)
  ints : ∀ (i : Nat) (n : FK.Node) (u : Value), l[i]? = some n → vs[i]? = some u → OwnInts w base u n.after

theorem nodesV_snoc : ∀ (l : List FK.Node) (vs : List Value) (n : FK.Node) (v : Value), vs.length = l.length → nodesV (l ++ [n]) (vs ++ [v]) = nodesV l vs ++ nodeCells n v
  | [], [], n, v, _ => by simp [nodesV]
  | [], _ :: _, _, _, h => by simp at h
  | _ :: _, [], _, _, h => by simp at h
  | m :: l, u :: vs, n, v, h => by simp only [List.cons_append, nodesV, nodesV_snoc l vs n v (by simpa using h), List.append_assoc]

theorem nodesV_length : ∀ (l : List FK.Node) (vs : List Value), vs.length = l.length → (nodesV l vs).length = l.length * 7
  | [], [], _ => rfl
  | [], _ :: _, h => by simp at h
  | _ :: _, [], h => by simp at h
  | m :: l, u :: vs, h => by simp only [nodesV, List.length_append, nodesV_length l vs (by simpa using h), nodeCells, List.length_cons, List.length_nil]; omega

theorem nodesV_at : ∀ (l : List FK.Node) (vs : List Value) (i j : Nat) (n : FK.Node) (v : Value), vs.length = l.length → l[i]? = some n → vs[i]? = some v → j < 7 → (nodesV l vs)[i * 7 + j]? = (nodeCells n v)[j]?
  | [], _, i, _, _, _, _, h, _, _ => by simp at h
  | _ :: _, [], i, _, _, _, h, _, _, _ => by simp at h
  | m :: l, u :: vs, 0, j, n, v, h, h1, h2, hj => by
    simp at h1 h2; subst h1; subst h2
    simp only [nodesV, Nat.zero_mul, Nat.zero_add]
    rw [List.getElem?_append_left (by simp [nodeCells]; omega)]
  | m :: l, u :: vs, i + 1, j, n, v, h, h1, h2, hj => by
    simp only [List.getElem?_cons_succ] at h1 h2
    simp only [nodesV]
    rw [List.getElem?_append_right (by simp [nodeCells]; omega)]
    have : (i + 1) * 7 + j - (nodeCells m u).length = i * 7 + j := by simp [nodeCells]; omega
    rw [this]
    exact nodesV_at l vs i j n v (by simpa using h) h1 h2 hj

theorem infoInt : (Tryd.prog.info? 3).map (fun i => (i.zero, i.size, i.bytes)) = some (some (.int .i64 0), 1, 8) := by kernel_rfl
theorem infoNode : (Tryd.prog.info? 32).map (fun i => (i.zero, i.size, i.bytes)) = some (some (.agg #[.int .i64 0, .int .i64 0, .int .i64 0, .int .i64 0, .int .i64 0, .int .i64 0, .slice none 0 0]), 7, 72) := by kernel_rfl

/-- how great what came in may be -/
def FlowFits (l : List FK.Node) : Prop := l.length * 72 ≤ 140737488355328 ∧ ∀ n ∈ l, n.after.length * 8 ≤ 140737488355328

def CopyPost (w : World) (dl : Int) (l : List FK.Node) (e : Ending) (w' : World) : Prop :=
  ∃ A c vs, e = .returned (.agg #[.int .i64 dl, .slice A l.length c]) ∧ OwnNodes w' w.heap.size (.slice A l.length c) l vs ∧ Below w.heap.size w w'

theorem OwnNodes.same {w w' : World} {base : Nat} {v : Value} {l : List FK.Node} {vs : List Value} (h : OwnNodes w base v l vs) (hs : ∀ k, base ≤ k → k < w.heap.size → w'.heap[k]? = w.heap[k]?) : OwnNodes w' base v l vs :=
  ⟨h.len, own_same h.row fun k hk => hs k (own_lt h.row hk).1 (own_lt h.row hk).2, fun i n u h1 h2 => own_same (h.ints i n u h1 h2) fun k hk => hs k (own_lt (h.ints i n u h1 h2) hk).1 (own_lt (h.ints i n u h1 h2) hk).2⟩

theorem OwnNodes.same_t {w w' : World} {base : Nat} {v : Value} {l : List FK.Node} {vs : List Value} (h : OwnNodes w base v l vs) (hs : ∀ k t cs, t ≠ 24 → Blk w k t cs → w'.heap[k]? = w.heap[k]?) : OwnNodes w' base v l vs :=
  ⟨h.len, own_same_t h.row fun k cs hk => hs k _ cs (by decide) hk, fun i n u h1 h2 => own_same_t (h.ints i n u h1 h2) fun k cs hk => hs k _ cs (by decide) hk⟩

theorem OwnNodes.snoc {w w2 : World} {base : Nat} {v v2 u : Value} {l : List FK.Node} {vs : List Value} {n : FK.Node} (h : OwnNodes w base v l vs) (hu : OwnInts w base u n.after)
    (hown2 : w2.ownsRow base 32 7 v2 (l.length + 1) (nodesV l vs ++ nodeCells n u)) (hg : w.grownBy w2 v.ownBlock) : OwnNodes w2 base v2 (l ++ [n]) (vs ++ [u]) := by
  have key : ∀ (u : Value) (ys : List Int), OwnInts w base u ys → OwnInts w2 base u ys := fun u ys hu =>
    World.ownsRow.kept hu hg (own_beside hu h.row (by decide))
  refine ⟨by simp [h.len], ?_, ?_⟩
  · rw [nodesV_snoc _ _ _ _ h.len, List.length_append]
    exact hown2
  · intro i m x hi hx
    rcases Nat.lt_trichotomy i l.length with hlt | heq | hgt
    · rw [List.getElem?_append_left hlt] at hi
      rw [List.getElem?_append_left (by rw [h.len]; exact hlt)] at hx
      exact key _ _ (h.ints i m x hi hx)
    · subst heq
      rw [List.getElem?_append_right (Nat.le_refl _)] at hi
      rw [List.getElem?_append_right (by rw [h.len]; exact Nat.le_refl _), h.len] at hx
      simp at hi hx
      subst hi; subst hx
      exact key _ _ hu
    · rw [List.getElem?_eq_none (by simp; omega)] at hi
      cases hi

/-- what lies below a block stands while that block and newer ones are written -/
theorem below_then {wr w6 : World} (h : Below wr.heap.size wr w6) (hs : wr.heap.size < w6.heap.size) (i : Nat) (u : Value) (o : Obj) : Below wr.heap.size wr ((w6.setCell ⟨wr.heap.size, i, none⟩ u).alloc o) :=
  (h.setCell (Nat.le_refl _) u).alloc (by simp; omega) o

theorem ints_then {wr w6 : World} {base : Nat} {v : Value} {l : List Int} (h : OwnInts w6 base v l) (hat : v.ownBlock = none ∨ v.ownBlock = some (wr.heap.size + 1)) (i : Nat) (u : Value) (o : Obj) :
    OwnInts ((w6.setCell ⟨wr.heap.size, i, none⟩ u).alloc o) base v l := by
  refine own_same h fun k hk => ?_
  have hlt := (own_lt h hk).2
  rw [Below.heap_alloc _ _ _ (by simpa using hlt), Below.heap_setCell _ _ _ _ ?_]
  rcases hat with h' | h'
  · rw [h'] at hk; cases hk
  · rw [h'] at hk; injection hk with hk; simp; omega

/-- behind the append of a node -/
theorem copy_round {w wr w7 w8 : World} {dl : Int} {A : Option Addr} {c k : Nat} {l : List FK.Node} {n : FK.Node} {vs : List Value} {u3 u6 v8 : Value} (hown : OwnNodes wr w.heap.size u3 (l.take k) vs) (hb : Below w.heap.size w wr)
    (h7 : Below wr.heap.size wr w7) (hu : OwnInts w7 w.heap.size u6 n.after) (hn : l[k]? = some n) (hsz : w.heap.size + 1 < wr.heap.size)
    (hown8 : w8.ownsRow w.heap.size 32 7 v8 ((l.take k).length + 1) (nodesV (l.take k) vs ++ nodeCells n u6)) (hg8 : w7.grownBy w8 u3.ownBlock)
    (hb1 : Blk wr w.heap.size 24 #[.int .i64 dl, .slice A l.length c]) (hb2 : Blk wr (w.heap.size + 1) 24 #[.int .i64 0, .slice none 0 0]) :
    OwnNodes w8 w.heap.size v8 (l.take (k + 1)) (vs ++ [u6]) ∧ Below w.heap.size w w8 ∧ w.heap.size + 1 < w8.heap.size ∧ Blk w8 w.heap.size 24 #[.int .i64 dl, .slice A l.length c] ∧ Blk w8 (w.heap.size + 1) 24 #[.int .i64 0, .slice none 0 0] := by
  obtain ⟨hk, hn'⟩ := List.getElem?_eq_some_iff.1 hn
  have ho7 : OwnNodes w7 w.heap.size u3 (l.take k) vs := hown.same fun q _ hq => h7.block q hq
  have h7s := h7.size
  have h8s := hg8.size
  refine ⟨?_, ?_, by omega, ?_, ?_⟩
  · rw [List.take_succ_eq_append_getElem hk, hn']
    exact ho7.snoc hu hown8 hg8
  · refine (hb.trans (h7.mono hb.size)).grown hg8 (by omega) fun q hq => (own_lt ho7.row hq).1
  · have h1 := hb1.same h7.to_same (by omega)
    exact (hg8.block _ (by omega) (own_blk ho7.row h1 (by decide))).trans h1
  · have h1 := hb2.same h7.to_same (by omega)
    exact (hg8.block _ (by omega) (own_blk ho7.row h1 (by decide))).trans h1

set_option maxRecDepth 10000 in
set_option maxHeartbeats 2000000 in
theorem copied_calls (w : World) (B : Nat) (dl : Int) (A : Option Addr) (c : Nat) (l : List FK.Node) (hB : B ≤ w.heap.size) (hN : NodesAt w B A c l) (hfit : FlowFits l) :
    Calls Tryd.prog 27 #[.agg #[.int .i64 dl, .slice A l.length c]] w (CopyPost w dl l) := by
  obtain ⟨i0, hi, hz0, hz1, hz2⟩ := info_parts infoInt
  obtain ⟨i1, hj, hy0, hy1, hy2⟩ := info_parts infoNode
  have HI := Lib.hid hi
  have HZ0 := Lib.hid hz0
  have HZ1 := Lib.hid hz1
  have HZ2 := Lib.hid hz2
  have HJ := Lib.hid hj
  have HY0 := Lib.hid hy0
  have HY1 := Lib.hid hy1
  have HY2 := Lib.hid hy2
  have HN := Lib.hid hN
  have HF := Lib.hid hfit.2
  have hf1 := hfit.1
  have g1 := hN.len
  have g2 := hN.cap
  clear hi hz0 hz1 hz2 hj hy0 hy1 hy2 hN hfit
  go_enter Tryd.func27, Tryd.ntmps27
  go_wp2
  go_loopw [3, 9] (fun t s wr => ∃ (k : Nat) (vs : List Value), k ≤ l.length ∧ s = .int .i64 k ∧ OwnNodes wr w.heap.size t (l.take k) vs ∧ Below w.heap.size w wr ∧ w.heap.size + 1 < wr.heap.size ∧
    Blk wr w.heap.size 24 #[.int .i64 dl, .slice A l.length c] ∧ Blk wr (w.heap.size + 1) 24 #[.int .i64 0, .slice none 0 0]) (fun _ s _ => l.length - (intOf s).toNat)
  case atStart =>
    refine ⟨0, [], by omega, rfl, ⟨by simp, World.ownsRow_nil _ _ _ _, fun i n u h => by simp at h⟩, (by repeat (first | assumption | exact Below.refl _ _ | refine below_drewN ?_ _ | refine Below.drew ?_ | refine Below.alloc ?_ (by first | omega | (simp; done) | (simp; omega)) _ | refine Below.setCell ?_ (by first | omega | (simp; done) | (simp; omega)) _)), by simp, ?_, ?_⟩
    · show (((w.heap.push _).push _))[w.heap.size]? = _
      simp [Array.getElem?_push]
    · simpa using Blk.made (w.alloc (.cells #[.int .i64 dl, .slice A l.length c] 24)) 24 #[.int .i64 0, .slice none 0 0]
  case round =>
    obtain ⟨k, vs, hk, rfl, hown, hb, hsz, hb1, hb2⟩ := hrel
    have HOWN := Lib.hid hown
    have HB := Lib.hid hb
    have HB1 := Lib.hid hb1
    have HB2 := Lib.hid hb2
    have hc1 : wr.cell? ⟨w.heap.size, 0, none⟩ = some (.int .i64 dl) := hb1.cell 0
    have hc2 : wr.cell? ⟨w.heap.size, 1, none⟩ = some (.slice A l.length c) := hb1.cell 1
    by_cases hlt : k < l.length
    · obtain ⟨b, off, rfl, hbB, hcell⟩ := HN.out.cells (by omega)
      have hkn : l[k]? = some l[k] := by simp [hlt]
      obtain ⟨n, hn⟩ : ∃ n, n = l[k] := ⟨_, rfl⟩
      rw [← hn] at hkn
      clear hn hown hb1 hb2
      have hnode := (hcell k n hkn).keep (hb.to_same.mono hB) hbB
      obtain ⟨c0, c1, c2, c3, c4, c5, ⟨A6, n6, c6, hia⟩, hr⟩ := hnode
      have HI6 := Lib.hid hia
      have HKN := Lib.hid hkn
      have hal := hia.len
      have hac := hia.cap
      have hf2 := HF.out n (List.mem_of_getElem? hkn)
      have hnil : A6 = none → n.after.length = 0 := fun h => by
        rcases Nat.eq_zero_or_pos n.after.length with h0 | h0
        · exact h0
        · obtain ⟨_, _, h1, _⟩ := hia.cells h0
          rw [h] at h1; cases h1
      have HNIL := Lib.hid hnil
      have HNEWS : Hid (∀ (W : World), Same B wr W → ∀ ad, A6 = some ad → ∀ j u, (intsV n.after)[j]? = some u → W.cell? (ad.add j) = some u) := fun W hs ad had j u hu => by
        have hj : j < n.after.length := by have := (List.getElem?_eq_some_iff.1 hu).1; simpa [intsV] using this
        obtain ⟨b6, o6, hA, hb6, hcs⟩ := (hia.keep hs).cells (by omega)
        rw [had] at hA; injection hA with hA; subst hA
        have e : (⟨b6, o6, none⟩ : Addr).add j = ⟨b6, o6 + j, none⟩ := by unfold Addr.add; split <;> simp_all
        rw [e]
        simp [intsV] at hu
        obtain ⟨y, hy, rfl⟩ := hu
        exact hcs j y hy
      clear hcell hr hia hkn hb hnil
      have tok1 : True := trivial
      have hkl : (List.take k l).length = k := by simp; omega
      have HKL := Lib.hid hkl
      clear hkl
      go_wp2_with (first | (at_builtin; have _t := tok1; go_must (refine wpList_app _ rfl (.const (.slice none 0 0)) (.tmp 14) 30 rfl w.heap.size 3 i0 (.int .i64 0) 1 8 Tryd.underlying30 HI.out HZ0.out HZ1.out HZ2.out rfl (by decide) (.slice none 0 0) 0 [] rfl (World.ownsRow_nil _ _ _ _) A6 n.after.length n6 (intsV n.after) rfl (by simp [intsV]) HNIL.out (HNEWS.out _ (fun x hx => Below.heap_alloc _ _ _ (by omega))) (by simp [intsV, Value.oneCell']) (by unfold maxLen; omega) (by omega) (by first | omega | (simp; done) | (simp; omega)) ?_; intro v6 w6 hown6 hg6 hat6 _; obtain ⟨A7, c7, rfl, hA7, _⟩ := own_form hown6; have HB6 : Hid (Below wr.heap.size wr w6) := ((Below.refl _ _).alloc (Nat.le_refl _) _).trans ((Below.refl _ _).grown hg6 (by simp) (by simp [Value.ownBlock])); have hsz6 : wr.heap.size < w6.heap.size := (by have := hg6.size; simp at this; omega); have HOWN6 := Lib.hid hown6; have HBOX : Hid (Blk w6 wr.heap.size 32 #[.int .i64 n.budget, .int .i64 n.close, .int .i64 n.beat, .int .i64 n.base, .int .i64 n.cap, .int .i64 n.jitter, .slice A6 n.after.length n6]) := (hg6.block _ (by simp) (by simp [Value.ownBlock])).trans (Blk.made _ _ _); have HAT6 := Lib.hid hat6; clear hown6 hg6 hat6 tok1; have x0 := HBOX.out.cell 0; have x1 := HBOX.out.cell 1; have x2 := HBOX.out.cell 2; have x3 := HBOX.out.cell 3; have x4 := HBOX.out.cell 4; have x5 := HBOX.out.cell 5; have x6 := HBOX.out.cell 6; have xf := HBOX.out.free 6; simp only [List.getElem?_toArray, List.getElem?_cons_zero, List.getElem?_cons_succ] at x0 x1 x2 x3 x4 x5 x6)) | (at_builtin; go_must (refine wpList_app _ rfl (.tmp 17) (.tmp 19) 22 rfl w.heap.size 32 i1 _ 7 72 Tryd.underlying22 HJ.out HY0.out HY1.out HY2.out rfl (by decide) u3 (List.take k l).length (nodesV (List.take k l) vs) rfl (HOWN.out.same (fun q _ hq => (below_then HB6.out hsz6 _ _ _).block q hq)).row (some ⟨w6.heap.size, 0, none⟩) 1 1 (nodeCells n (.slice A7 n.after.length c7)) rfl rfl (fun h => by cases h) (fun ad had => by injection had with had; subst had; exact cells_new_at _ _ _ _ _ (by simp) rfl) (by simp [nodeCells, Value.oneCell']) (by have := HKL.out; unfold maxLen; omega) (by have := HKL.out; omega) (by first | omega | (simp; done) | (simp; omega)) ?_; intro v8 w8 hown8 hg8 hat8 _)))
      have hr := copy_round (n := n) HOWN.out HB.out (below_then HB6.out hsz6 _ _ _) (ints_then (by unfold OwnInts; simpa using HOWN6.out) (by simpa [Value.ownBlock] using HAT6.out) _ _ _) HKN.out hsz hown8 hg8 HB1.out HB2.out
      have HR := Lib.hid hr
      clear hr hown8 hg8 hat8
      go_roundw
      case rel => exact ⟨k + 1, _, by omega, by go_num, HR.out⟩
      case measure => simp [intOf]; omega
    · obtain rfl : k = l.length := by omega
      rw [List.take_length] at HOWN hown
      obtain ⟨A3, c3, rfl, _⟩ := own_form hown.row
      have y0 := hb2.cell 0
      have y1 := hb2.cell 1
      have f1 := hb1.free 1
      have f2 := hb2.free 0
      have f3 := hb2.free 1
      simp only [List.getElem?_toArray, List.getElem?_cons_zero, List.getElem?_cons_succ] at y0 y1
      clear hown hb1 hb2 hb
      go_wp2
      have hfin : Blk (((wr.setCell ⟨w.heap.size, 1, none⟩ (.slice A3 l.length c3)).setCell ⟨w.heap.size + 1, 0, none⟩ (.int .i64 dl)).setCell ⟨w.heap.size + 1, 1, none⟩ (.slice A3 l.length c3)) (w.heap.size + 1) 24 #[.int .i64 dl, .slice A3 l.length c3] :=
        ((HB2.out.far (p := ⟨w.heap.size, 1, none⟩) (by simp) _).put 0 _).put 1 _
      have hcl0 := hfin.cell 0
      have hcl1 := hfin.cell 1
      simp only [List.getElem?_toArray, List.getElem?_cons_zero, List.getElem?_cons_succ] at hcl0 hcl1
      refine bodyPost_ret (v := .agg #[.int .i64 dl, .slice A3 l.length c3]) (by simp [results, Tryd.results27, go_sem, hcl0, hcl1]) rfl ?_
      refine ⟨A3, c3, vs, rfl, HOWN.out.same_t fun q t cs ht hq => ?_, (by repeat (first | exact HB.out | refine below_drewN ?_ _ | refine Below.drew ?_ | refine Below.alloc ?_ (by first | omega | (simp; done) | (simp; omega)) _ | refine Below.setCell ?_ (by first | omega | (simp; done) | (simp; omega)) _))⟩
      have n1 : q ≠ w.heap.size := hq.beside HB1.out ht
      have n2 : q ≠ w.heap.size + 1 := hq.beside HB2.out ht
      rw [Below.heap_setCell _ _ _ _ (by simpa using n2), Below.heap_setCell _ _ _ _ (by simpa using n2), Below.heap_setCell _ _ _ _ (by simpa using n1)]

theorem OwnNodes.nodesAt {w : World} {base : Nat} {A : Option Addr} {c : Nat} {l : List FK.Node} {vs : List Value} (h : OwnNodes w base (.slice A l.length c) l vs)
    (hr : ∀ n ∈ l, (i64 n.budget ∧ i64 n.close ∧ i64 n.beat ∧ i64 n.base ∧ i64 n.cap ∧ i64 n.jitter) ∧ ∀ x ∈ n.after, i64 x) : NodesAt w w.heap.size A c l := by
  have hrow := h.row
  rcases hrow.2 with ⟨he, h0⟩ | ⟨g, cap, cur, he, hb, hg, h1, h2, _⟩
  · injection he with _ _ hc
    subst hc
    exact ⟨by omega, by omega, fun hl => by omega⟩
  · injection he with hA _ hc
    subst hA; subst hc
    refine ⟨h1, by unfold maxLen at h2; omega, fun hl => ⟨g, 0, rfl, (own_lt hrow rfl).2, fun i n hn => ?_⟩⟩
    obtain ⟨hi, _⟩ := List.getElem?_eq_some_iff.1 hn
    have hu : ∃ u, vs[i]? = some u := ⟨vs[i]'(by rw [h.len]; exact hi), by simp⟩
    obtain ⟨u, hu⟩ := hu
    have hint := h.ints i n u hn hu
    have hcell : ∀ j x, j < 7 → (nodeCells n u)[j]? = some x → w.cell? ⟨g, 0 + i * 7 + j, none⟩ = some x := fun j x hj hx => by
      have := hrow.cells (g := g) rfl (i * 7 + j) x (by rw [nodesV_at l vs i j n u h.len hn hu hj]; exact hx)
      have e : (⟨g, 0, none⟩ : Addr).add (i * 7 + j) = ⟨g, i * 7 + j, none⟩ := by unfold Addr.add; split <;> simp_all
      rw [e] at this
      rw [Nat.zero_add]; exact this
    obtain ⟨A6, c6, rfl, hA6, h6, h6'⟩ := own_form hint
    have hrn := hr n (List.mem_of_getElem? hn)
    refine ⟨hcell 0 _ (by omega) rfl, hcell 1 _ (by omega) rfl, hcell 2 _ (by omega) rfl, hcell 3 _ (by omega) rfl, hcell 4 _ (by omega) rfl, hcell 5 _ (by omega) rfl, ⟨A6, c6, hcell 6 _ (by omega) rfl, hrn.2, h6, by unfold maxLen at h6'; omega, fun hl => ?_⟩, hrn.1⟩
    rcases hint.2 with ⟨he, h0⟩ | ⟨g6, cap6, cur6, he, _⟩
    · omega
    · injection he with hA _ _
      subst hA
      refine ⟨g6, 0, rfl, (own_lt hint rfl).2, fun j x hx => ?_⟩
      have := hint.cells (g := g6) rfl j (.int .i64 x) (by simp [intsV, hx])
      have e : (⟨g6, 0, none⟩ : Addr).add j = ⟨g6, j, none⟩ := by unfold Addr.add; split <;> simp_all
      rw [e] at this
      rw [Nat.zero_add]; exact this
end Go.Proofs.YtagkobkmaigfcaaDoor

/- Arguments that come in, opened: lists of integers, flows; and what the row of a law that answers true asks behind the call. -/
namespace Go.Proofs.YtagkobkmaigfcaaDoor
open Go Go.RowKit Go.Deep Go.ChangeShapes Go.WideShapes

theorem addr_of_cell {w : World} {a : Addr} {v : Value} (h : w.cell? a = some v) : ∃ b off, a = ⟨b, off, none⟩ ∧ b < w.heap.size := by
  obtain ⟨b, off, spot⟩ := a
  unfold World.cell? at h
  split at h
  · rename_i c _ _ hc
    cases spot with
    | none => exact ⟨b, off, rfl, (Array.getElem?_eq_some_iff.1 hc).1⟩
    | some s => simp at h
  · cases h

theorem add_plain (b off n : Nat) : (⟨b, off, none⟩ : Addr).add n = ⟨b, off + n, none⟩ := by
  unfold Addr.add; split <;> simp_all

theorem i64_of_wf {n : Int} (h : (Lit.int .i64 n).wf = true) : i64 n := by
  have := bounds_i64 h
  exact ⟨this.1, by omega⟩

theorem cellsInt : Tryd.prog.cellsOf 3 = 1 := by kernel_rfl
theorem cellsNode : Tryd.prog.cellsOf 32 = 7 := by kernel_rfl
theorem bytesInt : Tryd.prog.bytesOf 3 = 8 := by kernel_rfl
theorem bytesNode : Tryd.prog.bytesOf 32 = 72 := by kernel_rfl

section
variable {H : Type} {enc : TypeId × Value → H} {w : World}

/-- a slice of integers that came in -/
theorem open_intsAt {fuel : Nat} {v : Value} {y : DataW H × List MemPlace} (h : DataW.trod enc Tryd.prog w 0 (fun _ => true) true fuel 30 [v] = some y) :
    ∃ A c l, v = .slice A l.length c ∧ IntsAt w w.heap.size A c l ∧ (∀ R, (y.1.weights Tryd.prog 30).all (· ≤ R) = true → l.length * 8 ≤ R) := by
  rcases open_ints Tryd.underlying30 Tryd.underlying3 cellsInt h with ⟨hcs, hx⟩ | ⟨a, len, cap, zs, hcs, _, hl, hm, hz, hx, hcell, hwz⟩
  · simp at hcs; subst hcs
    exact ⟨none, 0, [], rfl, ⟨by simp, by simp, by simp, by simp⟩, fun R _ => by simp⟩
  · simp at hcs; subst hcs
    simp only [if_true] at hz
    have hlen : (zs.take len).length = len := by simp; omega
    refine ⟨some a, cap, zs.take len, by rw [hlen], ⟨fun x hx' => i64_of_wf (hwz x (List.mem_of_mem_take hx')), by omega, by unfold maxLen at hm; omega, fun h0 => ?_⟩, fun R hR => ?_⟩
    · obtain ⟨b, off, rfl, hb⟩ := addr_of_cell (hcell 0 (by omega))
      refine ⟨b, off, rfl, hb, fun i x hi => ?_⟩
      obtain ⟨hi1, hi2⟩ := List.getElem?_eq_some_iff.1 hi
      have := hcell i (by omega)
      rw [add_plain] at this
      rw [this]
      rw [List.getElem?_take] at hi
      split at hi
      · simp [List.getD, hi]
      · cases hi
    · rw [hx] at hR
      simp only [DataW.weights, Tryd.underlying30] at hR
      simp only [List.all_cons, Bool.and_eq_true, decide_eq_true_eq] at hR
      have h1 := hR.1
      rw [bytesInt] at h1
      have e1 : (lits (H := H) IntKind.i64 (zs.take len)).length = len := by simp [lits]; omega
      rw [e1] at h1
      rw [hlen]
      have := Nat.le_add_right len (lits (H := H) IntKind.i64 (zs.drop len)).length
      have := Nat.mul_le_mul_right 8 this
      omega

theorem list7 {α : Type} {l : List α} (h : l.length = 7) : ∃ a b c d e f g, l = [a, b, c, d, e, f, g] := by
  match l, h with
  | [a, b, c, d, e, f, g], _ => exact ⟨a, b, c, d, e, f, g, rfl⟩

theorem cellsInts : Tryd.prog.cellsOf 30 = 1 := by kernel_rfl

theorem open_node {fuel : Nat} {cs : List Value} {y : DataW H × List MemPlace} {b off : Nat} (h : DataW.trod enc Tryd.prog w 0 (fun _ => true) true fuel 32 cs = some y) (hc : ∀ j, j < 7 → w.cell? ⟨b, off + j, none⟩ = cs[j]?) :
    ∃ n : FK.Node, NodeAt w w.heap.size b off n ∧ (∀ R, (y.1.weights Tryd.prog 32).all (· ≤ R) = true → n.after.length * 8 ≤ R) := by
  obtain ⟨xs, n, _, hy, hlen, hxl, hg⟩ := DataW.trod_struct Tryd.underlying32 h
  obtain ⟨v0, v1, v2, v3, v4, v5, v6, rfl⟩ := list7 (hlen.trans cellsNode)
  obtain ⟨y0, y1, y2, y3, y4, y5, y6, rfl⟩ := list7 (l := xs) hxl
  have g0 : DataW.trod enc Tryd.prog w 0 (fun _ => true) true n 3 [v0] = some y0 := by have := hg 0 _ rfl; simpa [cellsInt] using this
  have g1 : DataW.trod enc Tryd.prog w 0 (fun _ => true) true n 3 [v1] = some y1 := by have := hg 1 _ rfl; simpa [cellsInt] using this
  have g2 : DataW.trod enc Tryd.prog w 0 (fun _ => true) true n 3 [v2] = some y2 := by have := hg 2 _ rfl; simpa [cellsInt] using this
  have g3 : DataW.trod enc Tryd.prog w 0 (fun _ => true) true n 3 [v3] = some y3 := by have := hg 3 _ rfl; simpa [cellsInt] using this
  have g4 : DataW.trod enc Tryd.prog w 0 (fun _ => true) true n 3 [v4] = some y4 := by have := hg 4 _ rfl; simpa [cellsInt] using this
  have g5 : DataW.trod enc Tryd.prog w 0 (fun _ => true) true n 3 [v5] = some y5 := by have := hg 5 _ rfl; simpa [cellsInt] using this
  have g6 : DataW.trod enc Tryd.prog w 0 (fun _ => true) true n 30 [v6] = some y6 := by have := hg 6 _ rfl; simpa [cellsInts] using this
  obtain ⟨a0, e0, _, w0⟩ := DataW.trod_int Tryd.underlying3 g0
  obtain ⟨a1, e1, _, w1⟩ := DataW.trod_int Tryd.underlying3 g1
  obtain ⟨a2, e2, _, w2⟩ := DataW.trod_int Tryd.underlying3 g2
  obtain ⟨a3, e3, _, w3⟩ := DataW.trod_int Tryd.underlying3 g3
  obtain ⟨a4, e4, _, w4⟩ := DataW.trod_int Tryd.underlying3 g4
  obtain ⟨a5, e5, _, w5⟩ := DataW.trod_int Tryd.underlying3 g5
  simp only [List.cons.injEq, and_true] at e0 e1 e2 e3 e4 e5
  subst e0 e1 e2 e3 e4 e5
  obtain ⟨A, c, l, rfl, hi, hw⟩ := open_intsAt g6
  refine ⟨⟨a0, a1, a2, a3, a4, a5, l⟩, ⟨hc 0 (by omega), hc 1 (by omega), hc 2 (by omega), hc 3 (by omega), hc 4 (by omega), hc 5 (by omega), ⟨A, c, hc 6 (by omega), hi⟩, i64_of_wf w0, i64_of_wf w1, i64_of_wf w2, i64_of_wf w3, i64_of_wf w4, i64_of_wf w5⟩, fun R hR => ?_⟩
  apply hw R
  rw [hy] at hR
  simp only [DataW.weights, Tryd.underlying32, List.map_cons, List.map_nil, DataW.weightsEach, List.all_append, Bool.and_eq_true] at hR
  exact hR.2.2.2.2.2.2.1

theorem underNodes : Tryd.prog.underlying 22 = some (.slice 32) := Tryd.underlying22

theorem weightsAll_at {P : Program} {e : TypeId} {R : Nat} : ∀ {l : List (DataW H)} {i : Nat} {d : DataW H}, (DataW.weightsAll P e l).all (· ≤ R) = true → l[i]? = some d → (d.weights P e).all (· ≤ R) = true
  | [], _, _, _, h => by simp at h
  | a :: l, 0, d, h, hd => by
    simp at hd; subst hd
    simp only [DataW.weightsAll, List.all_append, Bool.and_eq_true] at h
    exact h.1
  | a :: l, i + 1, d, h, hd => by
    simp only [DataW.weightsAll, List.all_append, Bool.and_eq_true] at h
    exact weightsAll_at h.2 (by simpa using hd)

instance : Inhabited FK.Node := ⟨⟨0, 0, 0, 0, 0, 0, []⟩⟩

/-- a slice of nodes that came in -/
theorem open_nodesAt {fuel : Nat} {v : Value} {y : DataW H × List MemPlace} (h : DataW.trod enc Tryd.prog w 0 (fun _ => true) true fuel 22 [v] = some y) :
    ∃ A c l, v = .slice A l.length c ∧ NodesAt w w.heap.size A c l ∧ ((y.1.weights Tryd.prog 22).all (· ≤ reachBytes) = true → FlowFits l) := by
  rcases open_slice underNodes h with ⟨hcs, hx⟩ | ⟨a, len, cap, m, n, D, Pl, hcs, _, hl, hm, hmm, hx, hi⟩
  · simp at hcs; subst hcs
    exact ⟨none, 0, [], rfl, ⟨by simp, by simp, by simp⟩, fun _ => ⟨by simp, by simp⟩⟩
  · simp at hcs; subst hcs
    simp only [if_true] at hmm
    subst hmm
    rw [cellsNode] at hi
    have hnode : ∀ i, i < len → ∃ n : FK.Node, (∃ b off, a = ⟨b, off, none⟩ ∧ b < w.heap.size ∧ NodeAt w w.heap.size b (off + i * 7) n) ∧ (∀ R, ((D i).weights Tryd.prog 32).all (· ≤ R) = true → n.after.length * 8 ≤ R) := by
      intro i hil
      obtain ⟨cs', h1, h2⟩ := hi i (by omega)
      obtain ⟨_, hl7, hat⟩ := World.cells?_some h1
      have h0 := hat 0 (by omega)
      have hv : cs'[0]? = some (cs'[0]'(by omega)) := List.getElem?_eq_getElem _
      rw [hv, add_add] at h0
      obtain ⟨b', off', hab, hb'⟩ := addr_of_cell h0
      have hspot : ∃ b off, a = ⟨b, off, none⟩ := by
        obtain ⟨cs0, h10, _⟩ := hi 0 (by omega)
        obtain ⟨_, hl', hat'⟩ := World.cells?_some h10
        have h00 := hat' 0 (by omega)
        rw [add_add] at h00
        have e : a.add (0 * 7 + 0) = a := by simp [Addr.add]
        rw [e, List.getElem?_eq_getElem (by omega)] at h00
        obtain ⟨b, off, e, _⟩ := addr_of_cell h00
        exact ⟨b, off, e⟩
      obtain ⟨b, off, rfl⟩ := hspot
      have hbb : b < w.heap.size := by
        rw [add_plain] at hab
        injection hab with e1 _ _
        omega
      obtain ⟨nd, hnd, hw⟩ := open_node (b := b) (off := off + i * 7) h2 (fun j hj => by
        have := hat j hj
        rw [add_add, add_plain] at this
        rw [Nat.add_assoc]; exact this)
      exact ⟨nd, ⟨b, off, rfl, hbb, hnd⟩, hw⟩
    obtain ⟨V, hV⟩ := choose_lt hnode
    have hlen : ((List.range len).map V).length = len := by simp
    have hget : ∀ i n, ((List.range len).map V)[i]? = some n → i < len ∧ n = V i := fun i n hn => by
      obtain ⟨h1, h2⟩ := List.getElem?_eq_some_iff.1 hn
      simp at h1 h2
      exact ⟨h1, h2.symm⟩
    refine ⟨some a, m, (List.range len).map V, by rw [hlen], ⟨by omega, by unfold maxLen at hm; omega, fun h0 => ?_⟩, fun hR => ?_⟩
    · obtain ⟨⟨b, off, rfl, hb, _⟩, _⟩ := hV 0 (by omega)
      refine ⟨b, off, rfl, hb, fun i n hn => ?_⟩
      obtain ⟨h1, rfl⟩ := hget i n hn
      obtain ⟨⟨b', off', e, _, hnd⟩, _⟩ := hV i h1
      injection e with e1 e2 _
      subst e1 e2
      exact hnd
    · rw [hx] at hR
      simp only [DataW.weights, underNodes] at hR
      simp only [List.all_cons, List.all_append, Bool.and_eq_true, decide_eq_true_eq, List.length_map, List.length_range, bytesNode] at hR
      obtain ⟨h1, h2, _⟩ := hR
      unfold reachBytes at h1 h2
      refine ⟨by rw [hlen]; have := Nat.mul_le_mul_right 72 (Nat.le_add_right len (m - len)); omega, fun n hn => ?_⟩
      obtain ⟨i, hi1, hi2⟩ := List.mem_iff_getElem.1 hn
      obtain ⟨h3, h4⟩ := hget i n (by rw [List.getElem?_eq_getElem hi1, hi2])
      subst h4
      have := (hV i h3).2 _ (weightsAll_at (i := i) (d := D i) h2 (by simp [h3]))
      omega

theorem cellsFlow : Tryd.prog.cellsOf 24 = 2 := by kernel_rfl
theorem cellsNodes : Tryd.prog.cellsOf 22 = 1 := by kernel_rfl

set_option maxRecDepth 100000 in
/-- a flow that came in -/
theorem open_flow {r : Reach} {b0 : Nat} {v : Value} {d : DataW H} {p : List MemPlace} (hv : Value.okWide Tryd.prog w r b0 24 v) (h : DataW.Trod enc Tryd.prog w 0 (fun _ => true) true 24 v d p) :
    ∃ (f : FK.Flow) (A : Option Addr) (c : Nat), v = .agg #[.int .i64 f.deadline, .slice A f.nodes.length c] ∧ NodesAt w w.heap.size A c f.nodes ∧ i64 f.deadline ∧ ((d.weights Tryd.prog 24).all (· ≤ reachBytes) = true → FlowFits f.nodes) := by
  obtain ⟨v0, v1, y0, y1, n, rfl, rfl, rfl, h0, h1⟩ := Joins.open_agg2 Tryd.underlying24 (by kernel_rfl) cellsFlow hv h
  obtain ⟨a0, e0, _, w0⟩ := DataW.trod_int Tryd.underlying3 h0
  simp only [List.cons.injEq, and_true] at e0
  subst e0
  obtain ⟨A, c, l, rfl, hn, hw⟩ := open_nodesAt h1
  refine ⟨⟨a0, l⟩, A, c, rfl, hn, i64_of_wf w0, fun hR => hw ?_⟩
  simp only [DataW.weights, Tryd.underlying24, List.map_cons, List.map_nil, DataW.weightsEach, List.all_append, Bool.and_eq_true] at hR
  exact hR.2.1
end
end Go.Proofs.YtagkobkmaigfcaaDoor

/- What the rows' lists give a walk: the library's tables, and the handle of the type 'error'; the fixed objects; a world that meets the lists. -/
namespace Go.Proofs.YtagkobkmaigfcaaDoor
open Go Go.ChangeShapes Go.WideShapes Go.ChangeAt Go.RowKit Go.Deep Go.SL

theorem own : ownKnob Tryd.prog.godebug = none := by kernel_rfl
theorem gT64 : Tryd.prog.globalNamed "math/bits.deBruijn64tab" = some 1 := by kernel_rfl
theorem gT64type : (Tryd.prog.globals[1]?).map (·.type) = some 189 := by kernel_rfl
theorem laidOut : laidOutB Tryd.prog = true := by kernel_rfl
theorem gErr : Tryd.prog.globalNamed "errors.errorType" = some 0 := by kernel_rfl
theorem rtypeIs : (Tryd.prog.cutTypes.find? (·.1 == "internal/reflectlite.rtype")).map (·.2) = some 172 := by kernel_rfl
theorem oneRow : ((List.range Tryd.prog.types.size).filter fun t => Tryd.prog.rowNamed t [101, 114, 114, 111, 114]) = [71] := by kernel_rfl

theorem laid_parts {W : World} (h : laidMetH Tryd.prog Rows.codedRow.laid W) : laidMet Tryd.prog [("math/bits.deBruijn32tab", Rows.laid_math_bits_deBruijn32tab), ("math/bits.deBruijn64tab", Rows.laid_math_bits_deBruijn64tab)] W ∧ handlesMet Tryd.prog [("errors.errorType", Rows.laid_errors_errorType)] W := h

/-- the library's table lies where its initialiser lays it -/
theorem tab_of {W : World} (h' : laidMet Tryd.prog [("math/bits.deBruijn32tab", Rows.laid_math_bits_deBruijn32tab), ("math/bits.deBruijn64tab", Rows.laid_math_bits_deBruijn64tab)] W) : Tab W := by
  obtain ⟨ps, ⟨g', t', cs', fuel', p', q', _, _, _, _, hrest, _⟩, _⟩ := h'
  obtain ⟨g, t, cs, fuel, p, q, hg, ht, hvar, hd, _, _⟩ := hrest
  obtain rfl := Option.some.inj (gT64.symm.trans hg)
  obtain rfl := Option.some.inj (gT64type.symm.trans ht)
  have hdat : (Rows.laid_math_bits_deBruijn64tab : DataW Unit) = Lib.tabData .u8 (Lib.deBruijn64tab.map fun n : Nat => (n : Int)) := by rfl
  rw [hdat] at hd
  have hcs := Lib.cells_of_tab Tryd.underlying189 Tryd.underlying5 (by kernel_rfl) (by kernel_rfl) hd
  have ht : Lib.TabIs Tryd.prog W "math/bits.deBruijn64tab" .u8 (Lib.deBruijn64tab.map fun n : Nat => (n : Int)) := by
    unfold Lib.TabIs
    rw [hvar, ← hcs]
  intro j hj
  have := ht.cell gT64 j (by simpa using hj)
  rw [this]
  simp [List.getD, hj]

/-- the variable's one cell -/
theorem handle_of {W : World} (h' : handlesMet Tryd.prog [("errors.errorType", Rows.laid_errors_errorType)] W) : W.cell? ⟨0, 0, none⟩ = some (.iface 172 (.agg #[.pointer (some ⟨Tryd.prog.globals.size, 71, none⟩)])) := by
  obtain ⟨name, u, ty, e1, e2, e3, e4, e5⟩ := h' _ (List.mem_singleton.2 rfl)
  have en : name = [101, 114, 114, 111, 114] := (Option.some.inj e1).symm
  subst en
  obtain rfl := Option.some.inj (rtypeIs.symm.trans e2)
  have hm : ty ∈ (List.range Tryd.prog.types.size).filter fun t => Tryd.prog.rowNamed t [101, 114, 114, 111, 114] := List.mem_filter.2 ⟨List.mem_range.2 e3, e4⟩
  rw [oneRow] at hm
  obtain rfl := List.mem_singleton.1 hm
  have hh : typeHandle Tryd.prog 71 = .pointer (some ⟨Tryd.prog.globals.size, 71, none⟩) := by kernel_rfl
  rw [hh] at e5
  simpa using World.var?_cell gErr e5 0

/-- the streams of a world, and the library's tables fixed -/
noncomputable def envOf (W : World) : Env := ⟨W.os, W.tape, W.output, (match W.heap[1]? with | some o => [(1, o)] | none => []) ++ (match W.heap[0]? with | some o => [(0, o)] | none => [])⟩
theorem envOf_is (W : World) : (envOf W).is W := by
  refine ⟨rfl, rfl, rfl, fun p hp => ?_⟩
  unfold envOf at hp
  simp only [List.mem_append] at hp
  rcases hp with hp | hp
  · split at hp
    · rename_i o ho
      simp at hp; subst hp; exact ho
    · cases hp
  · split at hp
    · rename_i o ho
      simp at hp; subst hp; exact ho
    · cases hp

theorem envOf_tab {W w : World} (h : (envOf W).is w) {b o : Nat} {v : Value} (hb : b = 1 ∨ b = 0) (hv : W.cell? ⟨b, o, none⟩ = some v) : w.cell? ⟨b, o, none⟩ = some v := by
  have hlt := World.block_lt_of_cell? _ _ hv
  obtain ⟨ob, hob⟩ : ∃ ob, W.heap[b]? = some ob := ⟨_, Array.getElem?_eq_getElem hlt⟩
  have hm : (b, ob) ∈ (envOf W).fixed := by
    unfold envOf
    simp only [List.mem_append]
    rcases hb with rfl | rfl
    · left; rw [hob]; simp
    · right; rw [hob]; simp
  have := h.fixed _ hm
  simp only at this
  rw [← hv]
  simp only [World.cell?, this, hob]

theorem good_of {W : World} (h : laidMetH Tryd.prog Rows.codedRow.laid W) : Good (envOf W) := by
  obtain ⟨h1, h2⟩ := laid_parts h
  exact ⟨fun w hw j hj => envOf_tab hw (.inl rfl) (tab_of h1 j hj), fun w hw => envOf_tab hw (.inr rfl) (handle_of h2)⟩

/-- a reader's contract, at a world with the lists met -/
theorem Gives.run {f : FuncId} {args : Array Value} {φ : World → Prop} {R : Value → List HP → Prop} (h : Gives Tryd.prog Good f args φ R) {W : World} (hL : laidMetH Tryd.prog Rows.codedRow.laid W) (hφ : φ W) : Calls Tryd.prog f args W fun e W' => ∃ v m, e = .returned v ∧ R v m ∧ Below W.heap.size W W' :=
  (h (envOf W) W (good_of hL) (envOf_is W) hφ).mono fun e w' ⟨v, m, he, hR, hh⟩ => ⟨v, m, he, hR, by
    have hs : Sel (SL.old (envOf W) W) (m ++ [SL.old (envOf W) W]) (m ++ []) := Sel.app' m
    exact hh.old hs (envOf_is W)⟩
where
  Sel.app' : ∀ (m : List HP) {p : HP}, Sel p (m ++ [p]) (m ++ [])
  | [], _ => .head
  | _ :: m, _ => .tail (Sel.app' m)

/-- what the tables hold in the witness's world -/
def lay64 : Obj → Obj
  | .cells _ t frozen => .cells #[.int .u8 0, .int .u8 1, .int .u8 56, .int .u8 2, .int .u8 57, .int .u8 49, .int .u8 28, .int .u8 3, .int .u8 61, .int .u8 58, .int .u8 42, .int .u8 50, .int .u8 38, .int .u8 29, .int .u8 17, .int .u8 4, .int .u8 62, .int .u8 47, .int .u8 59, .int .u8 36, .int .u8 45, .int .u8 43, .int .u8 51, .int .u8 22, .int .u8 53, .int .u8 39, .int .u8 33, .int .u8 30, .int .u8 24, .int .u8 18, .int .u8 12, .int .u8 5, .int .u8 63, .int .u8 55, .int .u8 48, .int .u8 27, .int .u8 60, .int .u8 41, .int .u8 37, .int .u8 16, .int .u8 46, .int .u8 35, .int .u8 44, .int .u8 21, .int .u8 52, .int .u8 32, .int .u8 23, .int .u8 11, .int .u8 54, .int .u8 26, .int .u8 40, .int .u8 15, .int .u8 34, .int .u8 20, .int .u8 31, .int .u8 10, .int .u8 25, .int .u8 14, .int .u8 19, .int .u8 9, .int .u8 13, .int .u8 8, .int .u8 7, .int .u8 6] t frozen
  | o => o
def lay32 : Obj → Obj
  | .cells _ t frozen => .cells #[.int .u8 0, .int .u8 1, .int .u8 28, .int .u8 2, .int .u8 29, .int .u8 14, .int .u8 24, .int .u8 3, .int .u8 30, .int .u8 22, .int .u8 20, .int .u8 15, .int .u8 25, .int .u8 17, .int .u8 4, .int .u8 8, .int .u8 31, .int .u8 27, .int .u8 13, .int .u8 23, .int .u8 21, .int .u8 19, .int .u8 16, .int .u8 7, .int .u8 26, .int .u8 12, .int .u8 18, .int .u8 6, .int .u8 11, .int .u8 5, .int .u8 10, .int .u8 9] t frozen
  | o => o
noncomputable def layErr : Obj → Obj
  | .cells _ t frozen => .cells #[.iface 172 (.agg #[.pointer (some ⟨Tryd.prog.globals.size, 71, none⟩)])] t frozen
  | o => o
noncomputable def laidWorld (os : Os) : World :=
  { World.holding Tryd.prog os ⟨#[], #[], []⟩ with heap := (((World.holding Tryd.prog os ⟨#[], #[], []⟩).heap.modify 1 lay64).modify 2 lay32).modify 0 layErr }
theorem laid_met (os : Os) (args : Array Value) (hm : laidMet Tryd.prog [("math/bits.deBruijn32tab", Rows.laid_math_bits_deBruijn32tab), ("math/bits.deBruijn64tab", Rows.laid_math_bits_deBruijn64tab)] ((laidWorld os).forCall (fun _ _ => 0) ⟨#[], args, []⟩).memory) (hh : ([("errors.errorType", (Rows.laid_errors_errorType : DataW Unit))].all (handleAtB Tryd.prog ((laidWorld os).forCall (fun _ _ => 0) ⟨#[], args, []⟩).memory)) = true) :
    laidMetH Tryd.prog Rows.codedRow.laid ((laidWorld os).forCall (fun _ _ => 0) ⟨#[], args, []⟩).memory :=
  laidMetH_of_parts hm hh
end Go.Proofs.YtagkobkmaigfcaaDoor

/- The lists that a wheel's rows find laid: a table and a handle. -/
namespace Go.Proofs.YtagkobkmaigfcaaDoor
open Go Go.RowKit Go.SL
abbrev laid2 : List (String × DataW Unit) := [("math/bits.deBruijn64tab", Rows.laid_math_bits_deBruijn64tab), ("errors.errorType", Rows.laid_errors_errorType)]
theorem laid_parts2 {W : World} (h : laidMetH Tryd.prog laid2 W) : laidMet Tryd.prog [("math/bits.deBruijn64tab", Rows.laid_math_bits_deBruijn64tab)] W ∧ handlesMet Tryd.prog [("errors.errorType", Rows.laid_errors_errorType)] W := h
theorem tab_of2 {W : World} (h' : laidMet Tryd.prog [("math/bits.deBruijn64tab", Rows.laid_math_bits_deBruijn64tab)] W) : Tab W := by
  obtain ⟨ps, hrest, _⟩ := h'
  obtain ⟨g, t, cs, fuel, p, q, hg, ht, hvar, hd, _, _⟩ := hrest
  obtain rfl := Option.some.inj (gT64.symm.trans hg)
  obtain rfl := Option.some.inj (gT64type.symm.trans ht)
  have hdat : (Rows.laid_math_bits_deBruijn64tab : DataW Unit) = Lib.tabData .u8 (Lib.deBruijn64tab.map fun n : Nat => (n : Int)) := by rfl
  rw [hdat] at hd
  have hcs := Lib.cells_of_tab Tryd.underlying189 Tryd.underlying5 (by kernel_rfl) (by kernel_rfl) hd
  have ht : Lib.TabIs Tryd.prog W "math/bits.deBruijn64tab" .u8 (Lib.deBruijn64tab.map fun n : Nat => (n : Int)) := by
    unfold Lib.TabIs
    rw [hvar, ← hcs]
  intro j hj
  have := ht.cell gT64 j (by simpa using hj)
  rw [this]
  simp [List.getD, hj]
theorem good_of2 {W : World} (h : laidMetH Tryd.prog laid2 W) : Good (envOf W) := by
  obtain ⟨h1, h2⟩ := laid_parts2 h
  exact ⟨fun w hw j hj => envOf_tab hw (.inl rfl) (tab_of2 h1 j hj), fun w hw => envOf_tab hw (.inr rfl) (handle_of h2)⟩
theorem Gives.run2 {f : FuncId} {args : Array Value} {φ : World → Prop} {R : Value → List HP → Prop} (h : Gives Tryd.prog Good f args φ R) {W : World} (hL : laidMetH Tryd.prog laid2 W) (hφ : φ W) : Calls Tryd.prog f args W fun e W' => ∃ v m, e = .returned v ∧ R v m ∧ Below W.heap.size W W' :=
  (h (envOf W) W (good_of2 hL) (envOf_is W) hφ).mono fun e w' ⟨v, m, he, hR, hh⟩ => ⟨v, m, he, hR, by
    have hs : Sel (SL.old (envOf W) W) (m ++ [SL.old (envOf W) W]) (m ++ []) := Gives.run.Sel.app' m
    exact hh.old hs (envOf_is W)⟩
theorem laid_met2 (os : Os) (args : Array Value) (hm : laidMet Tryd.prog [("math/bits.deBruijn64tab", Rows.laid_math_bits_deBruijn64tab)] ((laidWorld os).forCall (fun _ _ => 0) ⟨#[], args, []⟩).memory) (hh : ([("errors.errorType", (Rows.laid_errors_errorType : DataW Unit))].all (handleAtB Tryd.prog ((laidWorld os).forCall (fun _ _ => 0) ⟨#[], args, []⟩).memory)) = true) :
    laidMetH Tryd.prog laid2 ((laidWorld os).forCall (fun _ _ => 0) ⟨#[], args, []⟩).memory :=
  laidMetH_of_parts hm hh
end Go.Proofs.YtagkobkmaigfcaaDoor
