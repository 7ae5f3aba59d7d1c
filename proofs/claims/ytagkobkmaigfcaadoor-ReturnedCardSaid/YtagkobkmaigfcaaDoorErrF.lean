/- errors.As, errors.Is, Told: at no error, at a number, at a fault. -/
import Derived.Test.YtagkobkmaigfcaaDoorSlOld
import Derived.Laws.Externs
import Derived.Test.YtagkobkmaigfcaaDoorTz
namespace Go.Proofs.YtagkobkmaigfcaaDoor
open Go Go.RowKit Go.SL Go.Extern

/-- what is known of the fixed objects: the library's tables -/
structure Good (E : Env) : Prop where
  tab : ∀ w, E.is w → Tab w
  err : ∀ w, E.is w → w.cell? ⟨0, 0, none⟩ = some (.iface 172 (.agg #[.pointer (some ⟨Tryd.prog.globals.size, 71, none⟩)]))

noncomputable abbrev hnd (t : TypeId) : Value := .pointer (some ⟨Tryd.prog.globals.size, t, none⟩)
noncomputable abbrev rt (t : TypeId) : Value := .iface 172 (.agg #[hnd t])
noncomputable abbrev rv (t : TypeId) (b k : Nat) : Value := .agg #[hnd t, .pointer (some ⟨b, 0, none⟩), .int .u64 k]

theorem ext_find {f : FuncId} {fn : Func} {e : Array Value → Sem Value} (hf : Tryd.prog.funcs[f]? = some fn) (hname : (fn.name == "runtime.NumGoroutine") = false) (hb : fn.body.isNone = true) (hn : Extern.findNext fn = none) (he : Extern.find fn = some e)
    {args : Array Value} {w w' : World} {v : Value} (h : (e args).run Tryd.prog w = .ok v w') : (callFunc f args).run Tryd.prog w = .ok (.value v) w' := by
  rw [run_callFunc_extern hf hname hb hn he, h]; rfl

theorem mKind (h : Value) (w : World) : (Go.method (Tryd.prog.types.size + Made.depth) 172 (.agg #[h]) "Kind").run Tryd.prog w = .ok (117, h) w := by kernel_rfl
theorem mElem (h : Value) (w : World) : (Go.method (Tryd.prog.types.size + Made.depth) 172 (.agg #[h]) "Elem").run Tryd.prog w = .ok (130, .agg #[h]) w := by kernel_rfl
theorem mImplements (h : Value) (w : World) : (Go.method (Tryd.prog.types.size + Made.depth) 172 (.agg #[h]) "Implements").run Tryd.prog w = .ok (131, .agg #[h]) w := by kernel_rfl
theorem mAssignableTo (h : Value) (w : World) : (Go.method (Tryd.prog.types.size + Made.depth) 172 (.agg #[h]) "AssignableTo").run Tryd.prog w = .ok (128, .agg #[h]) w := by kernel_rfl
theorem mComparable (h : Value) (w : World) : (Go.method (Tryd.prog.types.size + Made.depth) 172 (.agg #[h]) "Comparable").run Tryd.prog w = .ok (129, .agg #[h]) w := by kernel_rfl
theorem mUnwrap (p : Addr) (w : World) : (Go.method (Tryd.prog.types.size + Made.depth) 95 (.pointer (some p)) "Unwrap").run Tryd.prog w = .ok (123, .pointer (some p)) w := by kernel_rfl

theorem find0 {args : Array Value} {w w' : World} {v : Value} (h : ((fun args => ReflectliteValue.unpack (args.getD 0 (.tuple #[]))) args).run Tryd.prog w = .ok v w') : (callFunc 76 args).run Tryd.prog w = .ok (.value v) w' :=
  ext_find (e := (fun args => ReflectliteValue.unpack (args.getD 0 (.tuple #[])))) Tryd.func76 (by kernel_rfl) (by kernel_rfl) (by kernel_rfl) (by kernel_rfl) h
theorem valueOfPF (t : Nat) (w : World) : (callFunc 76 #[.iface 97 (.pointer (some ⟨t, 0, none⟩))]).run Tryd.prog w = .ok (.value (rv 97 w.heap.size 150)) (w.alloc (.cells #[.pointer (some ⟨t, 0, none⟩)] 97)) := find0 (by kernel_rfl)
theorem valueOfF (e : Addr) (w : World) : (callFunc 76 #[.iface 95 (.pointer (some e))]).run Tryd.prog w = .ok (.value (rv 95 w.heap.size 150)) (w.alloc (.cells #[.pointer (some e)] 95)) := find0 (by kernel_rfl)
theorem find1 {args : Array Value} {w w' : World} {v : Value} (h : ((ReflectliteValue.methodAny (ReflectliteValue.valueError "reflectlite.Value.Type" 0) (fun t _ _ _ => ReflectliteType.toType t)) args).run Tryd.prog w = .ok v w') : (callFunc 77 args).run Tryd.prog w = .ok (.value v) w' :=
  ext_find (e := (ReflectliteValue.methodAny (ReflectliteValue.valueError "reflectlite.Value.Type" 0) (fun t _ _ _ => ReflectliteType.toType t))) Tryd.func77 (by kernel_rfl) (by kernel_rfl) (by kernel_rfl) (by kernel_rfl) h
theorem typePF (b : Nat) (w : World) : (callFunc 77 #[rv 97 b 150]).run Tryd.prog w = .ok (.value (rt 97)) w := find1 (by kernel_rfl)
theorem find2 {args : Array Value} {w w' : World} {v : Value} (h : ((ReflectliteType.abiMethod fun t => (fun a : Nat => Value.int IntKind.u8 (a : Int)) <$> Rtype.kind t) args).run Tryd.prog w = .ok v w') : (callFunc 117 args).run Tryd.prog w = .ok (.value v) w' :=
  ext_find (e := (ReflectliteType.abiMethod fun t => (fun a : Nat => Value.int IntKind.u8 (a : Int)) <$> Rtype.kind t)) Tryd.func117 (by kernel_rfl) (by kernel_rfl) (by kernel_rfl) (by kernel_rfl) h
theorem kindPF (w : World) : (callFunc 117 #[hnd 97]).run Tryd.prog w = .ok (.value (.int .u8 22)) w := find2 (by kernel_rfl)
theorem kindF (w : World) : (callFunc 117 #[hnd 95]).run Tryd.prog w = .ok (.value (.int .u8 22)) w := find2 (by kernel_rfl)
theorem find3 {args : Array Value} {w w' : World} {v : Value} (h : ((ReflectliteType.method ReflectliteType.elem) args).run Tryd.prog w = .ok v w') : (callFunc 130 args).run Tryd.prog w = .ok (.value v) w' :=
  ext_find (e := (ReflectliteType.method ReflectliteType.elem)) Tryd.func130 (by kernel_rfl) (by kernel_rfl) (by kernel_rfl) (by kernel_rfl) h
theorem elemPF (w : World) : (callFunc 130 #[.agg #[hnd 97]]).run Tryd.prog w = .ok (.value (rt 95)) w := find3 (by kernel_rfl)
theorem find4 {args : Array Value} {w w' : World} {v : Value} (h : ((ReflectliteType.relation "Implements" ReflectliteType.implements_) args).run Tryd.prog w = .ok v w') : (callFunc 131 args).run Tryd.prog w = .ok (.value v) w' :=
  ext_find (e := (ReflectliteType.relation "Implements" ReflectliteType.implements_)) Tryd.func131 (by kernel_rfl) (by kernel_rfl) (by kernel_rfl) (by kernel_rfl) h
theorem implementsF (w : World) : (callFunc 131 #[.agg #[hnd 95], rt 71]).run Tryd.prog w = .ok (.value (.bool true)) w := find4 (by kernel_rfl)
theorem find5 {args : Array Value} {w w' : World} {v : Value} (h : (ReflectliteType.typeOf args).run Tryd.prog w = .ok v w') : (callFunc 80 args).run Tryd.prog w = .ok (.value v) w' :=
  ext_find (e := ReflectliteType.typeOf) Tryd.func80 (by kernel_rfl) (by kernel_rfl) (by kernel_rfl) (by kernel_rfl) h
theorem typeOfF (v : Value) (w : World) : (callFunc 80 #[.iface 95 v]).run Tryd.prog w = .ok (.value (rt 95)) w := find5 (by kernel_rfl)
theorem find6 {args : Array Value} {w w' : World} {v : Value} (h : ((ReflectliteType.relation "AssignableTo" ReflectliteType.assignableTo) args).run Tryd.prog w = .ok v w') : (callFunc 128 args).run Tryd.prog w = .ok (.value v) w' :=
  ext_find (e := (ReflectliteType.relation "AssignableTo" ReflectliteType.assignableTo)) Tryd.func128 (by kernel_rfl) (by kernel_rfl) (by kernel_rfl) (by kernel_rfl) h
theorem assignableF (w : World) : (callFunc 128 #[.agg #[hnd 95], rt 95]).run Tryd.prog w = .ok (.value (.bool true)) w := find6 (by kernel_rfl)
theorem find7 {args : Array Value} {w w' : World} {v : Value} (h : ((ReflectliteType.method fun t => do Rtype.noPackHeld "Comparable" t; pure (.bool (← typeInfo t).comparable)) args).run Tryd.prog w = .ok v w') : (callFunc 129 args).run Tryd.prog w = .ok (.value v) w' :=
  ext_find (e := (ReflectliteType.method fun t => do Rtype.noPackHeld "Comparable" t; pure (.bool (← typeInfo t).comparable))) Tryd.func129 (by kernel_rfl) (by kernel_rfl) (by kernel_rfl) (by kernel_rfl) h
theorem comparableF (w : World) : (callFunc 129 #[.agg #[hnd 95]]).run Tryd.prog w = .ok (.value (.bool true)) w := find7 (by kernel_rfl)
theorem valueOfPN (t : Nat) (w : World) : (callFunc 76 #[.iface 101 (.pointer (some ⟨t, 0, none⟩))]).run Tryd.prog w = .ok (.value (rv 101 w.heap.size 150)) (w.alloc (.cells #[.pointer (some ⟨t, 0, none⟩)] 101)) := find0 (by kernel_rfl)
theorem valueOfN (x : Int) (w : World) : (callFunc 76 #[.iface 26 (.int .i64 x)]).run Tryd.prog w = .ok (.value (rv 26 w.heap.size 130)) (w.alloc (.cells #[.int .i64 x] 26)) := find0 (by kernel_rfl)
theorem typePN (b : Nat) (w : World) : (callFunc 77 #[rv 101 b 150]).run Tryd.prog w = .ok (.value (rt 101)) w := find1 (by kernel_rfl)
theorem kindPN (w : World) : (callFunc 117 #[hnd 101]).run Tryd.prog w = .ok (.value (.int .u8 22)) w := find2 (by kernel_rfl)
theorem kindN (w : World) : (callFunc 117 #[hnd 26]).run Tryd.prog w = .ok (.value (.int .u8 2)) w := find2 (by kernel_rfl)
theorem elemPN (w : World) : (callFunc 130 #[.agg #[hnd 101]]).run Tryd.prog w = .ok (.value (rt 26)) w := find3 (by kernel_rfl)
theorem implementsN (w : World) : (callFunc 131 #[.agg #[hnd 26], rt 71]).run Tryd.prog w = .ok (.value (.bool true)) w := find4 (by kernel_rfl)
theorem typeOfN (v : Value) (w : World) : (callFunc 80 #[.iface 26 v]).run Tryd.prog w = .ok (.value (rt 26)) w := find5 (by kernel_rfl)
theorem assignableN (w : World) : (callFunc 128 #[.agg #[hnd 26], rt 26]).run Tryd.prog w = .ok (.value (.bool true)) w := find6 (by kernel_rfl)
theorem comparableN (w : World) : (callFunc 129 #[.agg #[hnd 26]]).run Tryd.prog w = .ok (.value (.bool true)) w := find7 (by kernel_rfl)
theorem assignableNF (w : World) : (callFunc 128 #[.agg #[hnd 26], rt 95]).run Tryd.prog w = .ok (.value (.bool false)) w := find6 (by kernel_rfl)

theorem rlm (z : Sem Value) (f : TypeId → Addr → Nat → Nat → Sem Value) (v : Value) :
    ReflectliteValue.method z f #[v] = (do match ← ReflectliteValue.parts v with | none => z | some (t, a, fl) => f t a fl (fl % 32)) := rfl
theorem rls (v x : Value) : ReflectliteValue.set #[v, x] = (do
    let (some (dst, a, fl), some (src, b, _)) := (← ReflectliteValue.parts v, ← ReflectliteValue.parts x)
      | unsupported (.noEntry "extern/(internal/reflectlite.Value).Set.zeroValue")
    if fl / ReflectliteValue.flagAddr % 2 == 0 then unsupported (.noEntry "extern/(internal/reflectlite.Value).Set.unaddressable")
    let val ← loadVar src b
    if ← Rtype.directlyAssignable dst src then storeVar dst a val
    else if ← Rtype.implements dst src then
      if (← Rtype.kind src) == 20 then
        match val with
        | .nilIface => unsupported (.noEntry "extern/reflectlite: a nil value of one interface type handed on as a value of another")
        | _ => storeVar dst a val
      else storeVar dst a (.iface src val)
    else panicString ("reflectlite.Set: value of type " ++ (← Rtype.spelt src) ++ " is not assignable to type " ++ (← Rtype.spelt dst))
    pure (.tuple #[])) := rfl
theorem findIsNil {args : Array Value} {w w' : World} {v : Value} (h : ((ReflectliteValue.method (ReflectliteValue.valueError "reflectlite.Value.IsNil" 0) ReflectliteValue.isNil) args).run Tryd.prog w = .ok v w') : (callFunc 78 args).run Tryd.prog w = .ok (.value v) w' :=
  ext_find (e := (ReflectliteValue.method (ReflectliteValue.valueError "reflectlite.Value.IsNil" 0) ReflectliteValue.isNil)) Tryd.func78 (by kernel_rfl) (by kernel_rfl) (by kernel_rfl) (by kernel_rfl) h
theorem findElem {args : Array Value} {w w' : World} {v : Value} (h : ((ReflectliteValue.method (ReflectliteValue.valueError "reflectlite.Value.Elem" 0) ReflectliteValue.elem) args).run Tryd.prog w = .ok v w') : (callFunc 95 args).run Tryd.prog w = .ok (.value v) w' :=
  ext_find (e := (ReflectliteValue.method (ReflectliteValue.valueError "reflectlite.Value.Elem" 0) ReflectliteValue.elem)) Tryd.func95 (by kernel_rfl) (by kernel_rfl) (by kernel_rfl) (by kernel_rfl) h
theorem findSet {args : Array Value} {w w' : World} {v : Value} (h : (ReflectliteValue.set args).run Tryd.prog w = .ok v w') : (callFunc 96 args).run Tryd.prog w = .ok (.value v) w' :=
  ext_find (e := ReflectliteValue.set) Tryd.func96 (by kernel_rfl) (by kernel_rfl) (by kernel_rfl) (by kernel_rfl) h

theorem partsPF (b : Nat) (w : World) : (ReflectliteValue.parts (rv 97 b 150)).run Tryd.prog w = .ok (some (97, ⟨b, 0, none⟩, 150)) w := by kernel_rfl
theorem partsAF (b : Nat) (w : World) : (ReflectliteValue.parts (rv 95 b 406)).run Tryd.prog w = .ok (some (95, ⟨b, 0, none⟩, 406)) w := by kernel_rfl
theorem partsVF (b : Nat) (w : World) : (ReflectliteValue.parts (rv 95 b 150)).run Tryd.prog w = .ok (some (95, ⟨b, 0, none⟩, 150)) w := by kernel_rfl
theorem mkF (b : Nat) (w : World) : (ReflectliteValue.mk 95 ⟨b, 0, none⟩ ReflectliteValue.flagAddr).run Tryd.prog w = .ok (rv 95 b 406) w := by kernel_rfl
theorem elemOfF (w : World) : (Rtype.elem? 97).run Tryd.prog w = .ok (some 95) w := by kernel_rfl
theorem directF (w : World) : (Rtype.directlyAssignable 95 95).run Tryd.prog w = .ok true w := by kernel_rfl

/-- is the pointer nil? -/
theorem isNilPF (a p : Nat) (w : World) (ha : CellIs ⟨a, 0, none⟩ (.pointer (some ⟨p, 0, none⟩)) w) : (callFunc 78 #[rv 97 a 150]).run Tryd.prog w = .ok (.value (.bool false)) w :=
  findIsNil (by
    rw [rlm]
    simp only [Sem.run_bind, partsPF, Result.andThen]
    have := run_loadVar1 (P := Tryd.prog) (t := 97) (by kernel_rfl) ha
    simp [ReflectliteValue.isNil, this, Result.andThen])
/-- what it points to -/
theorem elemVF (a p : Nat) (w : World) (ha : CellIs ⟨a, 0, none⟩ (.pointer (some ⟨p, 0, none⟩)) w) : (callFunc 95 #[rv 97 a 150]).run Tryd.prog w = .ok (.value (rv 95 p 406)) w :=
  findElem (by
    rw [rlm]
    simp only [Sem.run_bind, partsPF, Result.andThen]
    have := run_loadVar1 (P := Tryd.prog) (t := 97) (by kernel_rfl) ha
    simp [ReflectliteValue.elem, this, Result.andThen, elemOfF, mkF])
/-- it is set -/
theorem setF (ta b : Nat) (e : Addr) (old : Value) (w : World) (hb : CellIs ⟨b, 0, none⟩ (.pointer (some e)) w) (ht : w.heap[ta]? = some (.cells #[old] 95)) :
    (callFunc 96 #[rv 95 ta 406, rv 95 b 150]).run Tryd.prog w = .ok (.value (.tuple #[])) (w.setCell ⟨ta, 0, none⟩ (.pointer (some e))) :=
  findSet (by
    rw [rls]
    simp only [Sem.run_bind, partsAF, partsVF, Result.andThen]
    have h1 := run_loadVar1 (P := Tryd.prog) (t := 95) (by kernel_rfl) hb
    have h2 := run_store1 (P := Tryd.prog) (i := 0) (v := .pointer (some e)) ht (by simp) rfl
    have h3 := run_sizeIs (P := Tryd.prog) (t := 95) (n := 1) (by unfold sizeIs; kernel_rfl) w
    simp [ReflectliteValue.flagAddr, h1, Result.andThen, directF, storeVar, Value.cells, storeCells, Addr.add, h2, h3])

theorem partsPN (b : Nat) (w : World) : (ReflectliteValue.parts (rv 101 b 150)).run Tryd.prog w = .ok (some (101, ⟨b, 0, none⟩, 150)) w := by kernel_rfl
theorem partsAN (b : Nat) (w : World) : (ReflectliteValue.parts (rv 26 b 386)).run Tryd.prog w = .ok (some (26, ⟨b, 0, none⟩, 386)) w := by kernel_rfl
theorem partsVN (b : Nat) (w : World) : (ReflectliteValue.parts (rv 26 b 130)).run Tryd.prog w = .ok (some (26, ⟨b, 0, none⟩, 130)) w := by kernel_rfl
theorem mkN (b : Nat) (w : World) : (ReflectliteValue.mk 26 ⟨b, 0, none⟩ ReflectliteValue.flagAddr).run Tryd.prog w = .ok (rv 26 b 386) w := by kernel_rfl
theorem elemOfN (w : World) : (Rtype.elem? 101).run Tryd.prog w = .ok (some 26) w := by kernel_rfl
theorem directN (w : World) : (Rtype.directlyAssignable 26 26).run Tryd.prog w = .ok true w := by kernel_rfl

/-- is the pointer nil? -/
theorem isNilPN (a p : Nat) (w : World) (ha : CellIs ⟨a, 0, none⟩ (.pointer (some ⟨p, 0, none⟩)) w) : (callFunc 78 #[rv 101 a 150]).run Tryd.prog w = .ok (.value (.bool false)) w :=
  findIsNil (by
    rw [rlm]
    simp only [Sem.run_bind, partsPN, Result.andThen]
    have := run_loadVar1 (P := Tryd.prog) (t := 101) (by kernel_rfl) ha
    simp [ReflectliteValue.isNil, this, Result.andThen])
/-- what it points to -/
theorem elemVN (a p : Nat) (w : World) (ha : CellIs ⟨a, 0, none⟩ (.pointer (some ⟨p, 0, none⟩)) w) : (callFunc 95 #[rv 101 a 150]).run Tryd.prog w = .ok (.value (rv 26 p 386)) w :=
  findElem (by
    rw [rlm]
    simp only [Sem.run_bind, partsPN, Result.andThen]
    have := run_loadVar1 (P := Tryd.prog) (t := 101) (by kernel_rfl) ha
    simp [ReflectliteValue.elem, this, Result.andThen, elemOfN, mkN])
/-- it is set -/
theorem setN (ta b : Nat) (e : Int) (old : Value) (w : World) (hb : CellIs ⟨b, 0, none⟩ (.int .i64 e) w) (ht : w.heap[ta]? = some (.cells #[old] 26)) :
    (callFunc 96 #[rv 26 ta 386, rv 26 b 130]).run Tryd.prog w = .ok (.value (.tuple #[])) (w.setCell ⟨ta, 0, none⟩ (.int .i64 e)) :=
  findSet (by
    rw [rls]
    simp only [Sem.run_bind, partsAN, partsVN, Result.andThen]
    have h1 := run_loadVar1 (P := Tryd.prog) (t := 26) (by kernel_rfl) hb
    have h2 := run_store1 (P := Tryd.prog) (i := 0) (v := .int .i64 e) ht (by simp) rfl
    have h3 := run_sizeIs (P := Tryd.prog) (t := 26) (n := 1) (by unfold sizeIs; kernel_rfl) w
    simp [ReflectliteValue.flagAddr, h1, Result.andThen, directN, storeVar, Value.cells, storeCells, Addr.add, h2, h3])
end Go.Proofs.YtagkobkmaigfcaaDoor
