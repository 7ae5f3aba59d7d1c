/- Short names for the rules that a walk uses most. -/
import Derived.Test.YtagkobkmaigfcaaDoorSlDraw
namespace Go.SL
open Go Go.RowKit
section
variable {P : Program} {E : Env} {n : Nat} {D : List Deferred} {ts : List (Nat × Value)} {l : List HP} {ops : Array Oper} {Q : Exit → Act → World → Prop} {rest : List Oper} {i : Nat} {ty : TypeId} {pos : String} {af : Array Edge}

theorem At.app0 {fr : List HP} {K : Act → World → Prop} (h : At E n D ts fr K) : At E n D ts ([] ++ fr) K := h
theorem At.app1 {p : HP} {fr : List HP} {K : Act → World → Prop} (h : At E n D ts (p :: fr) K) : At E n D ts ([p] ++ fr) K := h
theorem At.app2 {p q : HP} {fr : List HP} {K : Act → World → Prop} (h : At E n D ts (p :: q :: fr) K) : At E n D ts ([p, q] ++ fr) K := h
theorem At.app3 {p q r : HP} {fr : List HP} {K : Act → World → Prop} (h : At E n D ts (p :: q :: r :: fr) K) : At E n D ts ([p, q, r] ++ fr) K := h
theorem At.app4 {p q r s : HP} {fr : List HP} {K : Act → World → Prop} (h : At E n D ts (p :: q :: r :: s :: fr) K) : At E n D ts ([p, q, r, s] ++ fr) K := h
theorem At.app5 {p q r s t : HP} {fr : List HP} {K : Act → World → Prop} (h : At E n D ts (p :: q :: r :: s :: t :: fr) K) : At E n D ts ([p, q, r, s, t] ++ fr) K := h

theorem L.mv {x : Operand} {v : Value} (hi : Nat.blt i n = true) (hx : ev ts x = some v) (h : At E n D ((i, v) :: ts) l (wpList P ops Q rest)) : At E n D ts l (wpList P ops Q (⟨some i, .move x, ty, pos, af, none⟩ :: rest)) := L.pure hi (ev_move hx) h
theorem L.as {x : Operand} {v : Value} (hi : Nat.blt i n = true) (hx : ev ts x = some v) (h : At E n D ((i, v) :: ts) l (wpList P ops Q rest)) : At E n D ts l (wpList P ops Q (⟨some i, .assign x, ty, pos, af, none⟩ :: rest)) := L.pure hi (ev_assign hx) h
theorem L.nc {x : Operand} {p : Addr} (hi : Nat.blt i n = true) (hx : ev ts x = some (.pointer (some p))) (h : At E n D ((i, .pointer (some p)) :: ts) l (wpList P ops Q rest)) : At E n D ts l (wpList P ops Q (⟨some i, .nilCheck x, ty, pos, af, none⟩ :: rest)) := L.pure hi (ev_nil hx) h
theorem L.fa (off : Nat) {s : TypeId} {x : Operand} {j b o : Nat} (hi : Nat.blt i n = true) (hf : fieldOff P s j = some off) (hx : ev ts x = some (.pointer (some ⟨b, o, none⟩))) (h : At E n D ((i, .pointer (some ⟨b, o + off, none⟩)) :: ts) l (wpList P ops Q rest)) :
    At E n D ts l (wpList P ops Q (⟨some i, .fieldAddr s x j, ty, pos, af, none⟩ :: rest)) := L.pure hi (ev_field hf hx) h
/-- one cell of a block that is held -/
theorem L.ld {t tb : TypeId} {x : Operand} {b o : Nat} {cs : Array Value} {fz : Nat × Nat} {r : List HP} {v : Value} [hh : Has b l (.cells cs tb fz) r] (hi : Nat.blt i n = true) (hd : isAggB P t = some false) (hx : ev ts x = some (.pointer (some ⟨b, o, none⟩))) (hv : cs[o]? = some v)
    (h : At E n D ((i, v) :: ts) l (wpList P ops Q rest)) : At E n D ts l (wpList P ops Q (⟨some i, .load t x, ty, pos, af, none⟩ :: rest)) := L.val hi (ev_load1 hd hx) (cellIs hv) h
/-- a store of one cell -/
theorem L.st {t tb : TypeId} {x y : Operand} {b o : Nat} {cs : Array Value} {r : List HP} {v : Value} [hh : Has b l (.cells cs tb) r] (hz : sizeIs P t 1) (hx : ev ts x = some (.pointer (some ⟨b, o, none⟩))) (hy : ev ts y = some v) (hv : v.oneCell' = true) (hi : o < cs.size)
    (h : At E n D ts (blk b tb (cs.setIfInBounds o v) :: r) (wpList P ops Q rest)) : At E n D ts l (wpList P ops Q (⟨none, .store t x y, ty, pos, af, none⟩ :: rest)) := L.op rfl (o_store1 rfl hz hx hy hv hi h)

theorem ev_extract {x : Operand} {vs : Array Value} {k : Nat} {v : Value} (hx : ev ts x = some (.tuple vs)) (hv : vs[k]? = some v) : Ev P ts (.extract x k) v Any := by
  intro a w _ _ _ _ _ kn _
  simp [execOp, kn.eval hx, Instr.extract, hv]
theorem L.ex {x : Operand} {vs : Array Value} {k : Nat} {v : Value} (hi : Nat.blt i n = true) (hx : ev ts x = some (.tuple vs)) (hv : vs[k]? = some v) (h : At E n D ((i, v) :: ts) l (wpList P ops Q rest)) : At E n D ts l (wpList P ops Q (⟨some i, .extract x k, ty, pos, af, none⟩ :: rest)) := L.pure hi (ev_extract hx hv) h

theorem ev_lenS {t t' : TypeId} {x : Operand} {p : Option Addr} {m c : Nat} (ht : P.underlying t = some (.slice t')) (hx : ev ts x = some (.slice p m c)) : Ev P ts (.call { callee := .builtin .len, args := #[x], argTypes := #[t] }) (.int .i64 m) Any := by
  intro a w _ _ _ _ _ kn _
  simp [execOp, resolve, invoke, builtin, Builtin.len_, kn.eval hx, run_underlying ht, goInt]
theorem ev_lenT {t : TypeId} {x : Operand} {s : ByteArray} (ht : P.underlying t = some .string) (hx : ev ts x = some (.string s)) : Ev P ts (.call { callee := .builtin .len, args := #[x], argTypes := #[t] }) (.int .i64 s.size) Any := by
  intro a w _ _ _ _ _ kn _
  simp [execOp, resolve, invoke, builtin, Builtin.len_, kn.eval hx, run_underlying ht, goInt]
theorem ev_iface {t : TypeId} {d : TypeDesc} {x : Operand} {v : Value} (ht : P.underlying t = some d) (hd : (match d with | .interface _ => true | _ => false) = false) (hx : ev ts x = some v) : Ev P ts (.makeInterface t x) (.iface t v) Any := by
  intro a w _ _ _ _ _ kn _
  simp only [execOp, kn.eval hx, Instr.makeInterface, Sem.run_bind, run_underlying ht, Result.andThen_ok]
  cases d <;> simp_all
theorem ev_func {fn : Fn} {xs ys : List Operand} {us vs : List Value} (hx : evs ts xs = some us) (hy : evs ts ys = some vs) : Ev P ts (.makeFunc fn xs.toArray ys.toArray) (.func fn us.toArray vs.toArray) Any := by
  intro a w _ _ _ _ _ kn _
  simp [execOp, Instr.makeFunc, evs_eval kn hx, evs_eval kn hy]

/-! wrapped integers -/
theorem w64 {x : Int} (h : -9223372036854775808 ≤ x ∧ x ≤ 9223372036854775807) : IntKind.i64.wrap x = x := IntWalk.i64_in x h
theorem wu64 {x : Int} (h : 0 ≤ x ∧ x ≤ 18446744073709551615) : IntKind.u64.wrap x = x := IntWalk.u64_in x h
theorem wu8 {x : Int} (h : 0 ≤ x ∧ x ≤ 255) : IntKind.u8.wrap x = x := IntWalk.u8_in x h
theorem wu32 {x : Int} (h : 0 ≤ x ∧ x ≤ 4294967295) : IntKind.u32.wrap x = x := IntWalk.u32_in x h
theorem mu64 (x : Int) : IntKind.u64.wrap x = x % 18446744073709551616 := by simp [IntKind.wrap, IntKind.bits, IntKind.signed]

/-! where ways meet -/
def Meet {X : Type} (n : Nat) (D : List Deferred) (E : Env) (T : X → List (Nat × Value)) (L : X → List HP) (I : X → Prop) (Q : Exit → Act → World → Prop) : Exit → Act → World → Prop
  | .normal, a, w => ∃ x, I x ∧ Fits n D (T x) a ∧ Holds E w (L x)
  | e, a, w => Q e a w
theorem At.cut {X : Type} {c : Code} {K : Act → World → Prop} (T : X → List (Nat × Value)) (L : X → List HP) (I : X → Prop) (h1 : At E n D ts l (c.wp P (Meet n D E T L I Q))) (h2 : ∀ x, I x → At E n D (T x) (L x) K) : At E n D ts l (c.wp P (Exit.then K Q)) :=
  fun a w f hw => Code.wp_mono (fun e a' w' hq => by
    cases e with
    | normal => obtain ⟨x, hI, hf, hH⟩ := hq; exact h2 x hI a' w' hf hH
    | _ => exact hq) (h1 a w f hw)
theorem At.meet {X : Type} {T : X → List (Nat × Value)} {L : X → List HP} {I : X → Prop} (x : X) (hI : I x) (hs : Sub (T x) ts) (hl : Ent l (L x)) : At E n D ts l (Meet n D E T L I Q .normal) := fun _ _ f hw => ⟨x, hI, f.sub hs, hw.ent hl⟩
theorem At.meetExit {X : Type} {T : X → List (Nat × Value)} {L : X → List HP} {I : X → Prop} {id : Nat} (h : At E n D ts l (Q (.exit id))) : At E n D ts l (Meet n D E T L I Q (.exit id)) := h
theorem At.meetRet {X : Type} {T : X → List (Nat × Value)} {L : X → List HP} {I : X → Prop} (h : At E n D ts l (Q .ret)) : At E n D ts l (Meet n D E T L I Q .ret) := h
end

/-! regions that draw, with one look at the edges -/
section
variable {P : Program} {E : Env} {n : Nat} {D : List Deferred} {ts : List (Nat × Value)} {l : List HP} {ops : Array Oper} {Q : Exit → Act → World → Prop} {fuel : Nat} {listed : Array Bool} {S : List (Nat × (World → Prop))}
def mayTake (ops : Array Oper) (listed : Array Bool) (i : Nat) : Bool := Region.noSelect ops && (Region.ready .any ops listed).contains i && Region.free .any ops listed i
theorem Dr.p (i : Nat) {d : Nat} {op : Op} {ty : TypeId} {pos : String} {af : Array Edge} {v : Value} (hi : ops[i]? = some ⟨some d, op, ty, pos, af, none⟩) (hd : Nat.blt d n = true) (hm : mayTake ops listed i = true) (hev : Ev P ts op v Any)
    (h : At E n D ((d, v) :: ts) l (Draw P ops (NoPanic Q) fuel (listed.setIfInBounds i true) S)) : At E n D ts l (Draw P ops (NoPanic Q) (fuel + 1) listed S) := by
  simp only [mayTake, Bool.and_eq_true] at hm
  exact Dr.pure i hm.1.1 hi hd hm.1.2 hm.2 hev h
theorem Dr.ld (i : Nat) {d : Nat} {op : Op} {ty : TypeId} {pos : String} {af : Array Edge} {v : Value} {φ : World → Prop} (hi : ops[i]? = some ⟨some d, op, ty, pos, af, none⟩) (hd : Nat.blt d n = true) (hm : mayTake ops listed i = true) (hev : Ev P ts op v φ) (hφ : ∀ w, Holds E w l → φ w)
    (h : At E n D ((d, v) :: ts) l (Draw P ops (NoPanic Q) fuel (listed.setIfInBounds i true) ((i, φ) :: S))) : At E n D ts l (Draw P ops (NoPanic Q) (fuel + 1) listed S) := by
  simp only [mayTake, Bool.and_eq_true] at hm
  exact Dr.take i hm.1.1 hi hd hm.1.2 hm.2 hev hφ h
end
end Go.SL
