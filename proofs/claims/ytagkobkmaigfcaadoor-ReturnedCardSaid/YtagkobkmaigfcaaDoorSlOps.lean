/- The logic's rules for single operations. -/
import Derived.Test.YtagkobkmaigfcaaDoorSl
namespace Go.SL
open Go Go.RowKit

/-! ### what an operation comes to, in every world of which φ is known -/

def Knows (ts : List (Nat × Value)) (a : Act) : Prop := ∀ i v, look i ts = some v → a.tmps[i]? = some v

theorem Fits.knows {n : Nat} {D : List Deferred} {ts : List (Nat × Value)} {a : Act} (h : Fits n D ts a) : Knows ts a := h.get

theorem Knows.eval {ts : List (Nat × Value)} {a : Act} (h : Knows ts a) {x : Operand} {v : Value} (hx : ev ts x = some v) : a.eval x = v := by
  cases x with
  | tmp t => simp [Act.eval, h t v hx]
  | const u => simpa [ev, Act.eval] using hx
  | global g => simpa [ev, Act.eval] using hx
  | func f => simpa [ev, Act.eval] using hx

/-- nothing is asked of the world -/
def Any (_ : World) : Prop := True
/-- a cell holds this -/
def CellIs (p : Addr) (v : Value) (w : World) : Prop := w.cell? p = some v
/-- a block holds this -/
def ObjIs (b : Nat) (o : Obj) (w : World) : Prop := w.heap[b]? = some o

/-- an operation that only looks: in every world with φ its value is v -/
def Ev (P : Program) (ts : List (Nat × Value)) (op : Op) (v : Value) (φ : World → Prop) : Prop :=
  ∀ a w (d : Option Tmp) (ty : TypeId) (pos : String) (af : Array Edge) (g : Option (Nat × Bool)), Knows ts a → φ w → (execOp a.eval ⟨d, op, ty, pos, af, g⟩).run P w = .ok (.value v) w

section
variable {P : Program} {ts : List (Nat × Value)}

theorem ev_move {x : Operand} {v : Value} (hx : ev ts x = some v) : Ev P ts (.move x) v Any := by
  intro a w _ _ _ _ _ k _
  simp [execOp, k.eval hx]

theorem ev_assign {x : Operand} {v : Value} (hx : ev ts x = some v) : Ev P ts (.assign x) v Any := by
  intro a w _ _ _ _ _ k _
  simp [execOp, k.eval hx]

theorem ev_pick {c x y : Operand} {b : Bool} {u v : Value} (hc : ev ts c = some (.bool b)) (hx : ev ts x = some u) (hy : ev ts y = some v) : Ev P ts (.pick c x y) (if b then u else v) Any := by
  intro a w _ _ _ _ _ k _
  cases b <;> simp [execOp, k.eval hc, k.eval hx, k.eval hy, asBool]

theorem ev_nil {x : Operand} {p : Addr} (hx : ev ts x = some (.pointer (some p))) : Ev P ts (.nilCheck x) (.pointer (some p)) Any := by
  intro a w _ _ _ _ _ k _
  simp [execOp, k.eval hx]

/-- one cell -/
theorem ev_load {t : TypeId} {x : Operand} {p : Addr} {v : Value} {d : TypeDesc} (hd : P.underlying t = some d) (hn : (match d with | .struct _ | .array _ _ => true | _ => false) = false)
    (hx : ev ts x = some (.pointer (some p))) : Ev P ts (.load t x) v (CellIs p v) := by
  intro a w _ _ _ _ _ k hc
  have hu : (underlying t).run P w = .ok d w := run_underlying hd w
  have ha : (isAgg t).run P w = .ok false w := by
    unfold isAgg
    simp only [Sem.run_bind, hu, Result.andThen_ok]
    cases d <;> simp_all
  unfold CellIs at hc
  simp [execOp, k.eval hx, Instr.loadAt, Instr.sureAddr, loadVar, ha, hc]
end
end Go.SL
namespace Go.SL
open Go Go.RowKit
section
variable {P : Program} {ts : List (Nat × Value)}

/-! ### integers -/

theorem ev_add {t t' : TypeId} {x y : Operand} {k : IntKind} {a b r : Int} (hx : ev ts x = some (.int k a)) (hy : ev ts y = some (.int k b)) (hr : k.wrap (a + b) = r) : Ev P ts (.binOp .add t x y t') (.int k r) Any := by
  intro ac w _ _ _ _ _ kn _
  subst hr
  simp [execOp, kn.eval hx, kn.eval hy, binOp, Op.intArith, eqGuard]
theorem ev_sub {t t' : TypeId} {x y : Operand} {k : IntKind} {a b r : Int} (hx : ev ts x = some (.int k a)) (hy : ev ts y = some (.int k b)) (hr : k.wrap (a - b) = r) : Ev P ts (.binOp .sub t x y t') (.int k r) Any := by
  intro ac w _ _ _ _ _ kn _
  subst hr
  simp [execOp, kn.eval hx, kn.eval hy, binOp, Op.intArith, eqGuard]
theorem ev_mul {t t' : TypeId} {x y : Operand} {k : IntKind} {a b r : Int} (hx : ev ts x = some (.int k a)) (hy : ev ts y = some (.int k b)) (hr : k.wrap (a * b) = r) : Ev P ts (.binOp .mul t x y t') (.int k r) Any := by
  intro ac w _ _ _ _ _ kn _
  subst hr
  simp [execOp, kn.eval hx, kn.eval hy, binOp, Op.intArith, eqGuard]
theorem ev_quo {t t' : TypeId} {x y : Operand} {k : IntKind} {a b r : Int} (hx : ev ts x = some (.int k a)) (hy : ev ts y = some (.int k b)) (hb : b ≠ 0) (hr : k.wrap (a.tdiv b) = r) : Ev P ts (.binOp .quo t x y t') (.int k r) Any := by
  intro ac w _ _ _ _ _ kn _
  subst hr
  simp [execOp, kn.eval hx, kn.eval hy, binOp, Op.intDiv, eqGuard, hb]
theorem ev_rem {t t' : TypeId} {x y : Operand} {k : IntKind} {a b r : Int} (hx : ev ts x = some (.int k a)) (hy : ev ts y = some (.int k b)) (hb : b ≠ 0) (hr : a.tmod b = r) : Ev P ts (.binOp .rem t x y t') (.int k r) Any := by
  intro ac w _ _ _ _ _ kn _
  subst hr
  simp [execOp, kn.eval hx, kn.eval hy, binOp, Op.intDiv, eqGuard, hb]
theorem ev_shl {t t' : TypeId} {x y : Operand} {k k' : IntKind} {a b r : Int} (hx : ev ts x = some (.int k a)) (hy : ev ts y = some (.int k' b)) (hb : 0 ≤ b) (hr : k.wrap (a * 2 ^ min b.toNat k.bits) = r) : Ev P ts (.binOp .shl t x y t') (.int k r) Any := by
  intro ac w _ _ _ _ _ kn _
  subst hr
  have : ¬ b < 0 := by omega
  simp [execOp, kn.eval hx, kn.eval hy, binOp, Op.shift, eqGuard, this]
theorem ev_shr {t t' : TypeId} {x y : Operand} {k k' : IntKind} {a b r : Int} (hx : ev ts x = some (.int k a)) (hy : ev ts y = some (.int k' b)) (hb : 0 ≤ b) (hr : a.fdiv (2 ^ min b.toNat k.bits) = r) : Ev P ts (.binOp .shr t x y t') (.int k r) Any := by
  intro ac w _ _ _ _ _ kn _
  subst hr
  have : ¬ b < 0 := by omega
  simp [execOp, kn.eval hx, kn.eval hy, binOp, Op.shift, eqGuard, this]
theorem ev_and {t t' : TypeId} {x y : Operand} {k : IntKind} {a b r : Int} (hx : ev ts x = some (.int k a)) (hy : ev ts y = some (.int k b)) (hr : bits .and k a b = r) : Ev P ts (.binOp .and t x y t') (.int k r) Any := by
  intro ac w _ _ _ _ _ kn _
  subst hr
  simp [execOp, kn.eval hx, kn.eval hy, binOp, intBits_and, eqGuard]
theorem ev_or {t t' : TypeId} {x y : Operand} {k : IntKind} {a b r : Int} (hx : ev ts x = some (.int k a)) (hy : ev ts y = some (.int k b)) (hr : bits .or k a b = r) : Ev P ts (.binOp .or t x y t') (.int k r) Any := by
  intro ac w _ _ _ _ _ kn _
  subst hr
  simp [execOp, kn.eval hx, kn.eval hy, binOp, intBits_or, eqGuard]
theorem ev_xor {t t' : TypeId} {x y : Operand} {k : IntKind} {a b r : Int} (hx : ev ts x = some (.int k a)) (hy : ev ts y = some (.int k b)) (hr : bits .xor k a b = r) : Ev P ts (.binOp .xor t x y t') (.int k r) Any := by
  intro ac w _ _ _ _ _ kn _
  subst hr
  simp [execOp, kn.eval hx, kn.eval hy, binOp, intBits_xor, eqGuard]
theorem ev_andNot {t t' : TypeId} {x y : Operand} {k : IntKind} {a b r : Int} (hx : ev ts x = some (.int k a)) (hy : ev ts y = some (.int k b)) (hr : bits .andNot k a b = r) : Ev P ts (.binOp .andNot t x y t') (.int k r) Any := by
  intro ac w _ _ _ _ _ kn _
  subst hr
  simp [execOp, kn.eval hx, kn.eval hy, binOp, intBits_andNot, eqGuard]

theorem ev_lss {t t' : TypeId} {x y : Operand} {k : IntKind} {a b : Int} {r : Bool} (hx : ev ts x = some (.int k a)) (hy : ev ts y = some (.int k b)) (hr : decide (a < b) = r) : Ev P ts (.binOp .lss t x y t') (.bool r) Any := by
  intro ac w _ _ _ _ _ kn _
  subst hr
  simp [execOp, kn.eval hx, kn.eval hy, binOp, Op.intCmp, eqGuard]
theorem ev_leq {t t' : TypeId} {x y : Operand} {k : IntKind} {a b : Int} {r : Bool} (hx : ev ts x = some (.int k a)) (hy : ev ts y = some (.int k b)) (hr : decide (a ≤ b) = r) : Ev P ts (.binOp .leq t x y t') (.bool r) Any := by
  intro ac w _ _ _ _ _ kn _
  subst hr
  simp [execOp, kn.eval hx, kn.eval hy, binOp, Op.intCmp, eqGuard]
theorem ev_gtr {t t' : TypeId} {x y : Operand} {k : IntKind} {a b : Int} {r : Bool} (hx : ev ts x = some (.int k a)) (hy : ev ts y = some (.int k b)) (hr : decide (b < a) = r) : Ev P ts (.binOp .gtr t x y t') (.bool r) Any := by
  intro ac w _ _ _ _ _ kn _
  subst hr
  simp [execOp, kn.eval hx, kn.eval hy, binOp, Op.intCmp, eqGuard]
theorem ev_geq {t t' : TypeId} {x y : Operand} {k : IntKind} {a b : Int} {r : Bool} (hx : ev ts x = some (.int k a)) (hy : ev ts y = some (.int k b)) (hr : decide (b ≤ a) = r) : Ev P ts (.binOp .geq t x y t') (.bool r) Any := by
  intro ac w _ _ _ _ _ kn _
  subst hr
  simp [execOp, kn.eval hx, kn.eval hy, binOp, Op.intCmp, eqGuard]
theorem ev_eql {t t' : TypeId} {x y : Operand} {k : IntKind} {a b : Int} {r : Bool} (hx : ev ts x = some (.int k a)) (hy : ev ts y = some (.int k b)) (hr : decide (a = b) = r) : Ev P ts (.binOp .eql t x y t') (.bool r) Any := by
  intro ac w _ _ _ _ _ kn _
  subst hr
  by_cases h : a = b <;> simp [execOp, kn.eval hx, kn.eval hy, binOp, Op.intCmp, eqGuard, h]
theorem ev_neq {t t' : TypeId} {x y : Operand} {k : IntKind} {a b : Int} {r : Bool} (hx : ev ts x = some (.int k a)) (hy : ev ts y = some (.int k b)) (hr : decide (a ≠ b) = r) : Ev P ts (.binOp .neq t x y t') (.bool r) Any := by
  intro ac w _ _ _ _ _ kn _
  subst hr
  by_cases h : a = b <;> simp [execOp, kn.eval hx, kn.eval hy, binOp, Op.intCmp, eqGuard, h]

theorem exec_bin {op : BinOp} {t t' : TypeId} {x y : Operand} {u v r : Value} {a : Act} {w : World} {d : Option Tmp} {ty : TypeId} {pos : String} {af : Array Edge} {g : Option (Nat × Bool)} (hx : a.eval x = u) (hy : a.eval y = v)
    (hg : (eqGuard op t x y u v).run P w = .ok () w) (hb : (binOp op t u v).run P w = .ok r w) : (execOp a.eval ⟨d, .binOp op t x y t', ty, pos, af, g⟩).run P w = .ok (.value r) w := by
  simp [execOp, hx, hy, hg, hb]

theorem bin_eql {t : TypeId} {u v : Value} {r : Bool} {w : World} (hs : binOp .eql t u v = (do pure (.bool (← Op.equal t u v)))) (h : ∀ d, (Op.equalIn (d + 1) t u v).run P w = .ok r w) : (binOp .eql t u v).run P w = .ok (.bool r) w := by
  rw [hs]
  simp only [Op.equal, Op.maxDepth, Sem.run_bind, h 9999, Result.andThen_ok, Sem.run_pure]
theorem bin_neq {t : TypeId} {u v : Value} {r : Bool} {w : World} (hs : binOp .neq t u v = (do pure (.bool (!(← Op.equal t u v))))) (h : ∀ d, (Op.equalIn (d + 1) t u v).run P w = .ok r w) : (binOp .neq t u v).run P w = .ok (.bool (!r)) w := by
  rw [hs]
  simp only [Op.equal, Op.maxDepth, Sem.run_bind, h 9999, Result.andThen_ok, Sem.run_pure]

theorem ev_eqlB {t t' : TypeId} {x y : Operand} {a b r : Bool} (ht : P.underlying t = some .bool) (hx : ev ts x = some (.bool a)) (hy : ev ts y = some (.bool b)) (hr : (a == b) = r) : Ev P ts (.binOp .eql t x y t') (.bool r) Any := by
  intro ac w _ _ _ _ _ kn _
  subst hr
  exact exec_bin (kn.eval hx) (kn.eval hy) (by simp [eqGuard]) (bin_eql rfl fun d => by simp [Op.equalIn, run_underlying ht])
theorem ev_neqB {t t' : TypeId} {x y : Operand} {a b r : Bool} (ht : P.underlying t = some .bool) (hx : ev ts x = some (.bool a)) (hy : ev ts y = some (.bool b)) (hr : (!(a == b)) = r) : Ev P ts (.binOp .neq t x y t') (.bool r) Any := by
  intro ac w _ _ _ _ _ kn _
  subst hr
  exact exec_bin (kn.eval hx) (kn.eval hy) (by simp [eqGuard]) (bin_neq rfl fun d => by simp [Op.equalIn, run_underlying ht])

theorem ev_not {t : TypeId} {x : Operand} {a r : Bool} (hx : ev ts x = some (.bool a)) (hr : (!a) = r) : Ev P ts (.unOp .not t x) (.bool r) Any := by
  intro ac w _ _ _ _ _ kn _
  subst hr
  simp [execOp, kn.eval hx, Op.unary]
theorem ev_neg {t : TypeId} {x : Operand} {k : IntKind} {a r : Int} (hx : ev ts x = some (.int k a)) (hr : k.wrap (0 - a) = r) : Ev P ts (.unOp .neg t x) (.int k r) Any := by
  intro ac w _ _ _ _ _ kn _
  subst hr
  simp [execOp, kn.eval hx, Op.unary, Op.intArith]
theorem ev_conv {s d : TypeId} {ds : TypeDesc} {x : Operand} {k k' : IntKind} {a r : Int} (hs : P.underlying s = some ds) (hd : P.underlying d = some (.int k)) (hx : ev ts x = some (.int k' a)) (hr : k.wrap a = r) : Ev P ts (.convert s d x) (.int k r) Any := by
  intro ac w _ _ _ _ _ kn _
  subst hr
  simp [execOp, kn.eval hx, convert, run_underlying hs, run_underlying hd, Conv.intToInt]

/-! ### nil -/

theorem ev_eqlNil {t t' : TypeId} {x : Operand} {d : TypeId} {v : Value} {ms : Array (String × TypeId)} (ht : P.underlying t = some (.interface ms)) (hx : ev ts x = some (.iface d v)) : Ev P ts (.binOp .eql t x (.const (.nilIface)) t') (.bool false) Any := by
  intro ac w _ _ _ _ _ kn _
  exact exec_bin (kn.eval hx) (kn.eval (x := .const _) rfl) (by simp [eqGuard]) (bin_eql rfl fun d => by simp [Op.equalIn, run_underlying ht])
theorem ev_neqNil {t t' : TypeId} {x : Operand} {d : TypeId} {v : Value} {ms : Array (String × TypeId)} (ht : P.underlying t = some (.interface ms)) (hx : ev ts x = some (.iface d v)) : Ev P ts (.binOp .neq t x (.const (.nilIface)) t') (.bool true) Any := by
  intro ac w _ _ _ _ _ kn _
  exact exec_bin (kn.eval hx) (kn.eval (x := .const _) rfl) (by simp [eqGuard]) (bin_neq (r := false) rfl fun d => by simp [Op.equalIn, run_underlying ht])
theorem ev_eqlNil0 {t t' : TypeId} {x : Operand} {ms : Array (String × TypeId)} (ht : P.underlying t = some (.interface ms)) (hx : ev ts x = some (.nilIface)) : Ev P ts (.binOp .eql t x (.const (.nilIface)) t') (.bool true) Any := by
  intro ac w _ _ _ _ _ kn _
  exact exec_bin (kn.eval hx) (kn.eval (x := .const _) rfl) (by simp [eqGuard]) (bin_eql rfl fun d => by simp [Op.equalIn, run_underlying ht])
theorem ev_neqNil0 {t t' : TypeId} {x : Operand} {ms : Array (String × TypeId)} (ht : P.underlying t = some (.interface ms)) (hx : ev ts x = some (.nilIface)) : Ev P ts (.binOp .neq t x (.const (.nilIface)) t') (.bool false) Any := by
  intro ac w _ _ _ _ _ kn _
  exact exec_bin (kn.eval hx) (kn.eval (x := .const _) rfl) (by simp [eqGuard]) (bin_neq (r := true) rfl fun d => by simp [Op.equalIn, run_underlying ht])
theorem ev_eqlNilP {t t' e : TypeId} {x : Operand} {p : Option Addr} {r : Bool} (ht : P.underlying t = some (.pointer e)) (hx : ev ts x = some (.pointer p)) (hr : p.isNone = r) : Ev P ts (.binOp .eql t x (.const (.pointer none)) t') (.bool r) Any := by
  intro ac w _ _ _ _ _ kn _
  subst hr
  exact exec_bin (kn.eval hx) (kn.eval (x := .const _) rfl) (by simp [eqGuard]) (bin_eql rfl fun d => by cases p <;> simp [Op.equalIn, run_underlying ht])
theorem ev_neqNilP {t t' e : TypeId} {x : Operand} {p : Option Addr} {r : Bool} (ht : P.underlying t = some (.pointer e)) (hx : ev ts x = some (.pointer p)) (hr : (!p.isNone) = r) : Ev P ts (.binOp .neq t x (.const (.pointer none)) t') (.bool r) Any := by
  intro ac w _ _ _ _ _ kn _
  subst hr
  exact exec_bin (kn.eval hx) (kn.eval (x := .const _) rfl) (by simp [eqGuard]) (bin_neq rfl fun d => by cases p <;> simp [Op.equalIn, run_underlying ht])
theorem ev_eqlNilS {t t' e : TypeId} {x : Operand} {p : Option Addr} {n c n' c' : Nat} {r : Bool} (ht : P.underlying t = some (.slice e)) (hx : ev ts x = some (.slice p n c)) (hr : p.isNone = r) : Ev P ts (.binOp .eql t x (.const (Value.slice none n' c')) t') (.bool r) Any := by
  intro ac w _ _ _ _ _ kn _
  subst hr
  exact exec_bin (kn.eval hx) (kn.eval (x := .const _) rfl) (by simp [eqGuard]) (bin_eql rfl fun d => by cases p <;> simp [Op.equalIn, run_underlying ht])
theorem ev_neqNilS {t t' e : TypeId} {x : Operand} {p : Option Addr} {n c n' c' : Nat} {r : Bool} (ht : P.underlying t = some (.slice e)) (hx : ev ts x = some (.slice p n c)) (hr : (!p.isNone) = r) : Ev P ts (.binOp .neq t x (.const (Value.slice none n' c')) t') (.bool r) Any := by
  intro ac w _ _ _ _ _ kn _
  subst hr
  exact exec_bin (kn.eval hx) (kn.eval (x := .const _) rfl) (by simp [eqGuard]) (bin_neq rfl fun d => by cases p <;> simp [Op.equalIn, run_underlying ht])

/-! ### places -/

theorem add_plain (b o n : Nat) : (⟨b, o, none⟩ : Addr).add n = ⟨b, o + n, none⟩ := by
  unfold Addr.add; split <;> simp_all

/-- where a field lies -/
def fieldOff (P : Program) (s : TypeId) (j : Nat) : Option Nat :=
  match P.underlying s with
  | some (.struct fields) => match fields[j]? with
    | some f => match P.info? f.type with
      | some i => if i.size = 0 then none else some f.offset
      | none => none
    | none => none
  | _ => none

theorem run_fieldAt {s : TypeId} {j off : Nat} (h : fieldOff P s j = some off) (b o : Nat) (w : World) : (Instr.fieldAt s (.pointer (some ⟨b, o, none⟩)) j).run P w = .ok (.pointer (some ⟨b, o + off, none⟩)) w := by
  unfold fieldOff at h
  split at h
  · rename_i fields hu
    split at h
    · rename_i f hf
      split at h
      · rename_i i hi
        split at h
        · cases h
        · rename_i hz
          injection h with h
          subst h
          simp [Instr.fieldAt, run_underlying hu, hf, Instr.sureAddr, fieldPlace, sizeOf, typeInfo, hi, hz, add_plain]
      · cases h
    · cases h
  · cases h

theorem ev_field {s : TypeId} {x : Operand} {j off b o : Nat} (h : fieldOff P s j = some off) (hx : ev ts x = some (.pointer (some ⟨b, o, none⟩))) : Ev P ts (.fieldAddr s x j) (.pointer (some ⟨b, o + off, none⟩)) Any := by
  intro ac w _ _ _ _ _ kn _
  simp [execOp, kn.eval hx, run_fieldAt h]

/-- cells of a type -/
def sizeIs (P : Program) (t : TypeId) (n : Nat) : Prop := (P.info? t).map (·.size) = some n
theorem run_sizeIs {t : TypeId} {n : Nat} (h : sizeIs P t n) (w : World) : (sizeOf t).run P w = .ok n w := by
  unfold sizeIs at h
  cases hi : P.info? t with
  | none => simp [hi] at h
  | some i => simp [hi] at h; simp [sizeOf, typeInfo, hi, h]

theorem ev_ixS {t e : TypeId} {x y : Operand} {k : IntKind} {i : Int} {b o n c z : Nat} (ht : P.underlying t = some (.slice e)) (hz : sizeIs P e z) (hx : ev ts x = some (.slice (some ⟨b, o, none⟩) n c)) (hy : ev ts y = some (.int k i)) (h0 : 0 ≤ i) (h1 : i < n) :
    Ev P ts (.indexAddr t x y) (.pointer (some ⟨b, o + i.toNat * z, none⟩)) Any := by
  intro ac w _ _ _ _ _ kn _
  simp [execOp, kn.eval hx, kn.eval hy, Instr.indexAt, asIntOf, run_underlying ht, run_sizeIs hz, h0, h1, add_plain]
theorem ev_ixN {t e : TypeId} {x y : Operand} {k : IntKind} {i b o n c z : Nat} (ht : P.underlying t = some (.slice e)) (hz : sizeIs P e z) (hx : ev ts x = some (.slice (some ⟨b, o, none⟩) n c)) (hy : ev ts y = some (.int k (i : Int))) (h1 : i < n) :
    Ev P ts (.indexAddr t x y) (.pointer (some ⟨b, o + i * z, none⟩)) Any := ev_ixS ht hz hx hy (by omega) (by omega)
theorem ev_ixA {t e : TypeId} {x y : Operand} {k : IntKind} {i : Int} {b o n z : Nat} (ht : P.underlying t = some (.array n e)) (hz : sizeIs P e z) (hx : ev ts x = some (.pointer (some ⟨b, o, none⟩))) (hy : ev ts y = some (.int k i)) (h0 : 0 ≤ i) (h1 : i < n) :
    Ev P ts (.indexAddr t x y) (.pointer (some ⟨b, o + i.toNat * z, none⟩)) Any := by
  intro ac w _ _ _ _ _ kn _
  simp [execOp, kn.eval hx, kn.eval hy, Instr.indexAt, asIntOf, run_underlying ht, Instr.sureAddr, run_sizeIs hz, h0, h1, add_plain]

/-- is it kept in several cells? -/
def isAggB (P : Program) (t : TypeId) : Option Bool :=
  match P.underlying t with
  | some (.struct _) | some (.array _ _) => some true
  | some _ => some false
  | none => none
theorem run_isAggB {t : TypeId} {b : Bool} (h : isAggB P t = some b) (w : World) : (isAgg t).run P w = .ok b w := by
  unfold isAggB at h
  unfold isAgg
  cases hu : P.underlying t with
  | none => rw [hu] at h; cases h
  | some d =>
    rw [hu] at h
    rw [Sem.run_bind, run_underlying hu, Result.andThen_ok]
    cases d <;> (injection h with h; subst h; rfl)

theorem ev_load1 {t : TypeId} {x : Operand} {p : Addr} {v : Value} (hd : isAggB P t = some false) (hx : ev ts x = some (.pointer (some p))) : Ev P ts (.load t x) v (CellIs p v) := by
  intro a w _ _ _ _ _ k hc
  unfold CellIs at hc
  simp [execOp, k.eval hx, Instr.loadAt, Instr.sureAddr, loadVar, run_isAggB hd, hc]

/-- cells from a place on -/
def RowIs (b o : Nat) (vs : List Value) (w : World) : Prop := ∀ j v, vs[j]? = some v → w.cell? ⟨b, o + j, none⟩ = some v

theorem run_loadCellsFrom {b o : Nat} {w : World} : ∀ (vs : List Value) (i : Nat) (acc : Array Value), (∀ j v, vs[j]? = some v → w.cell? ⟨b, o + (i + j), none⟩ = some v) → (loadCellsFrom ⟨b, o, none⟩ i vs.length acc).run P w = .ok (acc ++ vs.toArray) w
  | [], i, acc, _ => by simp [loadCellsFrom]
  | v :: vs, i, acc, h => by
    have h0 := h 0 v (by simp)
    rw [Nat.add_zero] at h0
    have ih := run_loadCellsFrom vs (i + 1) (acc.push v) fun j u hj => by
      have := h (j + 1) u (by simpa using hj)
      rw [show i + 1 + j = i + (j + 1) by omega]; exact this
    simp [loadCellsFrom, add_plain, h0, ih]

theorem ev_loadN {t : TypeId} {x : Operand} {b o n : Nat} {vs : List Value} (hd : isAggB P t = some true) (hz : sizeIs P t n) (hn : vs.length = n) (hx : ev ts x = some (.pointer (some ⟨b, o, none⟩))) : Ev P ts (.load t x) (.agg vs.toArray) (RowIs b o vs) := by
  intro a w _ _ _ _ _ k hc
  subst hn
  have := run_loadCellsFrom (P := P) vs 0 #[] (fun j v hj => by simpa using hc j v hj)
  simp [execOp, k.eval hx, Instr.loadAt, Instr.sureAddr, loadVar, run_isAggB hd, run_sizeIs hz, loadCells, this]

end
end Go.SL
