/- The walks of plain.copied and plain.turn, in the small logic. -/
import Derived.Test.YtmeegfamopaljaaGreatDoorFiJ
import Derived.Laws.MakeOwn
import Derived.Test.YtmeegfamopaljaaGreatDoorFiI
import Derived.MapKept
import Derived.Test.YtmeegfamopaljaaGreatDoorFiG
import Derived.Laws.StructEq
import Derived.Maps.RangeRun
import Derived.LaidEql
namespace Go.SL
open Go Go.RowKit
end Go.SL
namespace Go.Proofs.YtmeegfamopaljaaGreatDoor
open Go Go.RowKit Go.SL
variable {G : Env → Prop}
theorem srcOld {E : Env} {l r : List HP} {w0 : World} {B : Nat} {A : Option Addr} {c : Nat} {xs : List Int} (s : Sel (old E w0) l r) (h0 : E.is w0) (h : IntsAt w0 B A c xs) (hB : B ≤ w0.heap.size) : ∀ w, Holds E w l → SrcIs A (intsV xs) w :=
  oldAt s h0 fun w hb ad had j u hj => by
    have hk := h.keep (hb.to_same.mono hB)
    simp only [intsV, List.getElem?_map, Option.map_eq_some_iff] at hj
    obtain ⟨x, hx, rfl⟩ := hj
    obtain ⟨b, off, hA, _, hc⟩ := hk.cells (by have := (List.getElem?_eq_some_iff.1 hx).1; omega)
    rw [had] at hA
    injection hA with hA
    subst hA
    rw [add_plain]
    exact hc j x hx
theorem NodesAt.i64s {w : World} {B : Nat} {A : Option Addr} {c : Nat} {ns : List FK.Node} (h : NodesAt w B A c ns) : ∀ n ∈ ns, (i64 n.budget ∧ i64 n.close ∧ i64 n.beat ∧ i64 n.base ∧ i64 n.cap ∧ i64 n.jitter) ∧ ∀ x ∈ n.after, i64 x := fun n hn => by
  obtain ⟨i, hi⟩ := List.getElem?_of_mem hn
  obtain ⟨b, off, _, _, hc⟩ := h.cells (by have := (List.getElem?_eq_some_iff.1 hi).1; omega)
  have hnode := hc i n hi
  obtain ⟨_, _, _, hi6⟩ := hnode.c6
  exact ⟨hnode.rng, hi6.rng⟩
theorem copy_snoc {v' : Value} {vs : List Value} {ns : List FK.Node} {k : Nat} {u : Value} {nd : FK.Node} {a b x y z : HP} (h : vs.length = k) (hk : ns[k]? = some nd) :
    Ent (row 46 7 v' (k + 1) (nodesV (ns.take k) vs ++ nodeCells nd u) :: a :: b :: intsAt u nd.after :: x :: y :: z :: aftsAt vs (ns.take k)) (row 46 7 v' (k + 1) (nodesV (ns.take (k + 1)) (vs ++ [u])) :: x :: y :: z :: aftsAt (vs ++ [u]) (ns.take (k + 1))) := by
  have hl : vs.length = (ns.take k).length := by have := (List.getElem?_eq_some_iff.1 hk).1; simp; omega
  rw [take_more hk, aftsAt_snoc hl, nodesV_snoc _ _ _ _ hl]
  refine Ent.cons (Ent.drop.trans (Ent.drop.trans (Ent.perm ?_)))
  have h1 : ([intsAt u nd.after] ++ (x :: y :: z :: aftsAt vs (ns.take k))).Perm ((x :: y :: z :: aftsAt vs (ns.take k)) ++ [intsAt u nd.after]) := List.perm_append_comm
  simpa using h1
theorem copy_close {v : Value} {vs : List Value} {ns : List FK.Node} {z : HP} (h : vs.length = ns.length) :
    Ent (row 46 7 v ns.length (nodesV (ns.take ns.length) vs) :: z :: aftsAt vs (ns.take ns.length)) ([nodesOwn v ns] ++ [z]) := by
  rw [List.take_length]
  refine (Ent.perm ?_).trans (nodesOwn.ent (r := [z]) h)
  exact List.Perm.cons _ (List.perm_append_comm (l₁ := [z]) (l₂ := aftsAt vs ns))
set_option maxRecDepth 10000 in
theorem copied_gives (dl : Int) (A : Option Addr) (c : Nat) (ns : List FK.Node) (hfit : FlowFits ns) : Gives Tryz.prog G 45 [.agg #[.int .i64 dl, .slice A ns.length c]].toArray (fun w => NodesAt w w.heap.size A c ns)
    fun v m => ∃ A' c', v = .agg #[.int .i64 dl, .slice A' ns.length c'] ∧ m = [nodesOwn (.slice A' ns.length c') ns] := by
  refine Gives.body Tryz.func45 rfl rfl fun E w0 hE h0 hN => ?_
  refine At.seq ?_
  refine At.region ?_
  refine L.op rfl (o_box rfl rfl fun b1 => ?_)
  refine L.op rfl (o_alloc (z := .agg #[.int .i64 0, .slice none 0 0]) rfl rfl fun b2 => ?_)
  refine L.nil ?_
  refine At.then ?_
  refine At.seq ?_
  refine At.region ?_
  refine L.as rfl rfl ?_
  refine L.nil ?_
  refine At.then ?_
  refine At.seq ?_
  refine At.seq ?_
  refine At.region ?_
  refine L.fa 1 rfl rfl rfl ?_
  refine L.ld rfl rfl rfl rfl ?_
  refine L.pure rfl (ev_lenS rfl rfl) ?_
  refine L.mv rfl rfl ?_
  refine L.nil ?_
  refine At.then ?_
  refine At.block ?_
  refine At.loop (X := Nat × List Value × Value) (fun x => [(9, .int .i64 x.1), (3, x.2.2), (7, .slice A ns.length c), (8, .int .i64 ns.length), (1, .pointer (some ⟨b1, 0, none⟩)), (2, .pointer (some ⟨b2, 0, none⟩))]) (fun x => row 46 7 x.2.2 x.1 (nodesV (ns.take x.1) x.2.1) :: blk b2 29 #[.int .i64 0, .slice none 0 0] :: blk b1 29 #[.int .i64 dl, .slice A ns.length c] :: old E w0 :: aftsAt x.2.1 (ns.take x.1)) (fun x => x.1 ≤ ns.length ∧ x.2.1.length = x.1) (fun x => ns.length - x.1) (0, [], .slice none 0 0) ⟨by omega, rfl⟩ ⟨rfl, rfl, rfl, rfl, rfl, rfl, trivial⟩ Ent.row0 ?_
  rintro ⟨k, vs, v3⟩ ⟨hk, hvs⟩
  simp only at hk hvs ⊢
  refine At.seq ?_
  refine At.region ?_
  refine L.pure rfl (ev_lss rfl rfl rfl) ?_
  refine L.nil ?_
  refine At.then ?_
  refine At.seq ?_
  refine At.condD rfl (fun c10 => ?_) (fun c10 => ?_)
  ·
    have hlt : k < ns.length := by omega
    obtain ⟨b, off, rfl, hbB, hcell⟩ := hN.cells (by omega)
    obtain ⟨nd, hnd⟩ : ∃ nd, ns[k]? = some nd := ⟨ns[k], by simp [hlt]⟩
    obtain ⟨A6, c6, hrow, hints⟩ := NodeAt.row (hcell k nd hnd)
    have hf1 := hfit.1
    have hf2 := hfit.2 nd (List.mem_of_getElem? hnd)
    refine At.skip ?_
    refine At.then ?_
    refine At.seq ?_
    refine At.block ?_
    refine At.seq ?_
    refine At.region ?_
    refine L.pure rfl (ev_ixN (z := 7) rfl rfl rfl rfl (by omega)) ?_
    refine L.val rfl (ev_loadN (vs := nodeVals nd A6 c6) rfl rfl rfl rfl) (rowOld (.tail (.tail (.tail (.head)))) h0 hrow) ?_
    refine L.op rfl (o_alloc (z := .agg #[.int .i64 0, .int .i64 0, .int .i64 0, .int .i64 0, .int .i64 0, .int .i64 0, .slice none 0 0]) rfl rfl fun b5 => ?_)
    refine L.op rfl (o_storeN rfl (m := 7) (vs := nodeVals nd A6 c6) rfl rfl rfl rfl (by simp [nodeVals, Value.oneCell']) (by simp [nodeVals, Value.cells]) ?_)
    simp only [Value.cells, setRow_all]
    refine L.nil ?_
    refine At.then ?_
    refine At.seq ?_
    refine At.region ?_
    refine L.fa 6 rfl rfl rfl ?_
    refine L.ld rfl rfl rfl rfl ?_
    refine At.ent (Ent.row0 (e := 3) (size := 1)) ?_
    refine L.op rfl (o_append (k := 0) (xs := []) rfl rfl infoInt rfl (by omega) rfl rfl .head (news := intsV nd.after) (by simp [intsV]) (fun h => by have := hints.cells; subst h; rcases Nat.eq_zero_or_pos nd.after.length with h | h; exact h; obtain ⟨_, _, h, _⟩ := this h; cases h) (srcOld (.tail (.tail (.tail (.tail (.tail (.head)))))) h0 hints (Nat.le_refl _)) (by simp [intsV, Value.oneCell']) (by unfold maxLen; omega) (by omega) fun v15 hv15 => ?_)
    simp only [Nat.zero_add, List.nil_append]
    refine At.formRow .head ?_
    rintro A7 c7 rfl _ _ _ _ _
    refine L.fa 6 rfl rfl rfl ?_
    refine L.st rfl rfl rfl rfl (by simp [nodeVals]) ?_
    refine L.nil ?_
    refine At.then ?_
    refine At.region ?_
    refine L.mv rfl rfl ?_
    refine L.val rfl (ev_loadN (vs := nodeCells nd (.slice A7 nd.after.length c7)) rfl rfl rfl rfl) (rowAll rfl) ?_
    refine L.op rfl (o_slices (m := 1) (z := .agg #[.int .i64 0, .int .i64 0, .int .i64 0, .int .i64 0, .int .i64 0, .int .i64 0, .slice none 0 0]) (size := 7) (ps := [(0, .tmp 18)]) (vs := [.agg (nodeCells nd (.slice A7 nd.after.length c7)).toArray]) (cs := (nodeCells nd (.slice A7 nd.after.length c7)).toArray) rfl rfl rfl rfl (by omega) (by omega) rfl (fill_node _ _) fun b19 => ?_)
    refine L.op rfl (o_append rfl rfl infoNode rfl (by omega) rfl rfl (.tail (.tail (.tail (.head)))) (news := nodeCells nd (.slice A7 nd.after.length c7)) rfl (fun h => by cases h) (srcIs (fun j u h => by simpa using h)) (by simp [nodeCells, Value.oneCell']) (by unfold maxLen; omega) (by omega) fun v4 hv4 => ?_)
    refine L.as rfl rfl ?_
    refine L.nil ?_
    refine At.inBlock (At.then ?_)
    refine At.region ?_
    refine L.pure rfl (ev_add rfl rfl (w64 (by omega))) ?_
    refine L.mv rfl rfl ?_
    refine L.nil ?_
    exact At.round (k + 1, vs ++ [.slice A7 nd.after.length c7], v4) ⟨by simp only; omega, by simp [hvs]⟩ (by simp only; omega) ⟨rfl, rfl, rfl, rfl, rfl, rfl, trivial⟩ (copy_snoc hvs hnd)
  ·
    obtain rfl : k = ns.length := by omega
    refine At.formRow .head ?_
    rintro A7 c7 rfl _ _ _ _ _
    refine At.exit ?_
    refine At.thenExit (At.roundExit (At.inBlockHit (At.then ?_)))
    refine At.seq ?_
    refine At.region ?_
    refine L.mv rfl rfl ?_
    refine L.fa 1 rfl rfl rfl ?_
    refine L.st rfl rfl rfl rfl (by first | decide | simp | (simp; omega)) ?_
    refine L.nil ?_
    refine At.then ?_
    refine At.seq ?_
    refine At.region ?_
    refine L.val rfl (ev_loadN (vs := [.int .i64 dl, .slice A7 ns.length c7]) rfl rfl rfl rfl) (rowAll rfl) ?_
    refine L.op rfl (o_storeN rfl (m := 2) (vs := [.int .i64 dl, .slice A7 ns.length c7]) rfl rfl rfl rfl (by simp [Value.oneCell']) (by simp) ?_)
    refine L.nil ?_
    refine At.then ?_
    refine At.ret ?_
    exact At.res1 [_] rfl (Res.cellN (vs := [.int .i64 dl, .slice A7 ns.length c7]) rfl rfl rfl rfl (rowAll rfl)) ⟨A7, c7, rfl, rfl⟩ (Ent.drop.trans (Ent.drop.trans (copy_close hvs)))
end Go.Proofs.YtmeegfamopaljaaGreatDoor

namespace Go.SL
open Go Go.RowKit
theorem Sel.left {p : HP} {l r : List HP} (s : Sel p l r) (m : List HP) : Sel p (l ++ m) (r ++ m) := by
  induction s with
  | head => exact .head
  | tail _ ih => exact .tail ih
section
variable {P : Program} {E : Env} {n : Nat} {D : List Deferred} {ts : List (Nat × Value)} {l : List HP} {ops : Array Oper} {Q : Exit → Act → World → Prop} {i : Nat} {ty : TypeId} {pos : String} {af : Array Edge} {g : Option (Nat × Bool)}
end
end Go.SL
namespace Go.Proofs.YtmeegfamopaljaaGreatDoor
open Go Go.RowKit Go.SL
theorem Ent.set : ∀ (l : List HP) (i : Nat) (x : HP), Ent (x :: l) (l.set i x)
  | [], _, _ => Ent.drop
  | _ :: _, 0, _ => Ent.cons Ent.drop
  | _ :: l, i + 1, x => (Ent.perm (List.Perm.swap _ _ _)).trans (Ent.cons (Ent.set l i x))
end Go.Proofs.YtmeegfamopaljaaGreatDoor

namespace Go.SL
open Go Go.RowKit
theorem map_erase {α β : Type} (f : α → β) : ∀ (l : List α) (j : Nat), (l.eraseIdx j).map f = (l.map f).eraseIdx j
  | [], _ => rfl
  | _ :: _, 0 => rfl
  | _ :: l, j + 1 => by simp [map_erase f l j]
theorem findNow_int {k : IntKind} {x : Int} : ∀ {es : List MapEntry} {m : List (Int × Value)} {i : Nat}, es.map (fun e => (e.key, e.val)) = m.map (fun p => (Value.int k p.1, p.2)) →
    Instr.findNow (.int k) (.int k x) es i = some ((m.findIdx? (·.1 == x)).map fun j => (i + j, ((m[j]?).map (·.2)).getD undef))
  | [], [], _, _ => rfl
  | [], _ :: _, _, h => by cases h
  | _ :: _, [], _, h => by cases h
  | e :: es, p :: m, i, h => by
    simp only [List.map_cons, List.cons.injEq, Prod.mk.injEq] at h
    obtain ⟨⟨h1, h2⟩, h3⟩ := h
    have ih := findNow_int (k := k) (x := x) (i := i + 1) h3
    simp only [Instr.findNow, h1, Instr.sameNow, if_true, List.findIdx?_cons]
    by_cases hx : p.1 = x
    · subst hx
      simp [h2]
    · have h4 : (x == p.1) = false := by simp; exact fun h => hx h.symm
      have h5 : (p.1 == x) = false := by simp [hx]
      simp only [h4, h5, Bool.false_eq_true, if_false]
      rw [ih]
      cases m.findIdx? (·.1 == x) with
      | none => rfl
      | some j => simp; omega
section
variable {P : Program} {E : Env} {n : Nat} {D : List Deferred} {ts : List (Nat × Value)} {l : List HP} {ops : Array Oper} {Q : Exit → Act → World → Prop} {i : Nat} {ty : TypeId} {pos : String} {af : Array Edge} {g : Option (Nat × Bool)}
theorem run_findInt {t : TypeId} {k : IntKind} (ht : P.underlying t = some (.int k)) {es : List MapEntry} {m : List (Int × Value)} (h : es.map (fun e => (e.key, e.val)) = m.map (fun p => (Value.int k p.1, p.2))) (x : Int) (w : World) :
    (Instr.findKey t (.int k x) es).run P w = .ok ((m.findIdx? (·.1 == x)).map fun j => (j, ((m[j]?).map (·.2)).getD undef)) w := by
  have := findNow_int (x := x) (i := 0) h
  simp only [Nat.zero_add] at this
  exact MapKept.run_findKey ht this
end
end Go.SL

namespace Go.SL
open Go Go.RowKit
section
variable {P : Program} {ts : List (Nat × Value)}
def eqInts (P : Program) (xs ys : Array Value) : List Field → Option Bool
  | [] => some true
  | f :: fs => bif f.name != "_" then
      match P.underlying f.type, xs[f.offset]?, ys[f.offset]? with
      | some (.int _), some (.int k a), some (.int k' b) => bif k == k' then (eqInts P xs ys fs).map ((a == b) && ·) else none
      | _, _, _ => none
    else none
theorem run_eqInts {d : Nat} {w : World} {xs ys : Array Value} : ∀ {fs : List Field} {r : Bool}, eqInts P xs ys fs = some r → (Op.eqFields (d + 1) xs ys fs).run P w = .ok r w
  | [], r, h => by simp [eqInts] at h; subst h; simp [Op.eqFields]
  | f :: fs, r, h => by
    simp only [eqInts] at h
    cases hn : f.name != "_" with
    | false => rw [hn] at h; simp at h
    | true =>
      rw [hn, cond_true] at h
      have hn' : f.name ≠ "_" := by simpa using hn
      split at h
      · rename_i k0 k a k' b hu hx hy
        cases hk : k == k' with
        | false => rw [hk] at h; simp at h
        | true =>
          rw [hk, cond_true, Option.map_eq_some_iff] at h
          obtain ⟨r', hr', e⟩ := h
          have ih := run_eqInts (d := d) (w := w) hr'
          have hk' : k = k' := by simpa using hk
          subst hk'
          have hp : ∀ (cs : Array Value) (v : Value), cs[f.offset]? = some v → (part f.type cs f.offset).run P w = .ok v w := fun cs v hv => by
            simp [part, isAgg, run_underlying hu, hv]
          have he : (Op.equalIn (d + 1) f.type (.int k a) (.int k b)).run P w = .ok (a == b) w := run_equalIn_int w d f.type k k0 a b hu
          simp only [Op.eqFields, if_pos hn', Sem.run_bind, hp xs _ hx, hp ys _ hy, he, Result.andThen_ok]
          cases hab : a == b with
          | true => rw [hab] at e; simp at e; subst e; simpa using ih
          | false => rw [hab] at e; simp at e; subst e; simp
      · cases h
theorem ev_neqStruct {t t' : TypeId} {x y : Operand} {xs ys : Array Value} {b r : Bool} (ht : P.underlying t = some (.struct (P.fieldsOf t))) (hp : P.stoodInHeld t = false) (hm : P.eqGuardType P.depth t = false) (hx : ev ts x = some (.agg xs)) (hy : ev ts y = some (.agg ys)) (h : eqInts P xs ys (P.fieldsOf t).toList = some b) (hr : (!b) = r) :
    Ev P ts (.binOp .neq t x y t') (.bool r) Any := by
  intro ac w _ _ _ _ _ kn _
  subst hr
  refine exec_bin (kn.eval hx) (kn.eval hy) (run_eqGuard_agg w _ _ _ _ _ _ hm) ?_
  rw [run_neq_struct, run_equalIn_agg w 9999 t xs ys ht hp, run_eqInts h, Result.andThen_ok]
end
end Go.SL

namespace Go.SL
open Go Go.RowKit
structure KeyK (P : Program) (kt : TypeId) (K : Type) [BEq K] (enc : K → Value) : Prop where
  check : ∀ (e : Bool) (k : K) (w : World), (Instr.checkKey e 10000 kt (enc k)).run P w = .ok () w
  find : ∀ (w : World) (es : List MapEntry) (m : List (K × Value)) (k : K), es.map (fun e => (e.key, e.val)) = m.map (fun p => (enc p.1, p.2)) →
    (Instr.findKey kt (enc k) es).run P w = .ok ((m.findIdx? (·.1 == k)).map fun j => (j, ((m[j]?).map (·.2)).getD undef)) w
  bits : ∀ k k' : K, (k == k') = true → Instr.sameBits 10000 (enc k) (enc k') = true
  eq : ∀ k k' : K, (k == k') = true → k = k'
section
variable {P : Program} {w : World}
theorem findIdx_nat (m : List (Nat × Value)) (x : Nat) : ((m.map fun p => ((p.1 : Int), p.2)).findIdx? (·.1 == (x : Int))) = m.findIdx? (·.1 == x) := by
  induction m with
  | nil => rfl
  | cons p m ih =>
    simp only [List.map_cons, List.findIdx?_cons, ih]
    by_cases h : p.1 = x
    · simp [h]
    · have h1 : (p.1 == x) = false := by simp [h]
      have h2 : ((p.1 : Int) == (x : Int)) = false := by simp; omega
      rw [h1, h2]
theorem keyNat {kt : TypeId} {k : IntKind} (ht : P.underlying kt = some (.int k)) : KeyK P kt Nat (fun x => .int k (x : Int)) where
  check := fun e x w => MapKept.run_checkKey (k := .int k x) ht (by simp [MapKept.IsKey]) e 9999
  find := fun w es m x h => by
    have h' : es.map (fun e => (e.key, e.val)) = (m.map fun p => ((p.1 : Int), p.2)).map (fun p => (Value.int k p.1, p.2)) := by rw [h]; simp
    rw [run_findInt ht h' x w, findIdx_nat]
    cases m.findIdx? (·.1 == x) with
    | none => rfl
    | some j => simp [Function.comp_def]
  bits := fun a b h => by
    have : a = b := by simpa using h
    subst this
    simp [Instr.sameBits]
  eq := fun a b h => by simpa using h
theorem findNow_str {x : ByteArray} : ∀ {es : List MapEntry} {m : List (ByteArray × Value)} {i : Nat}, es.map (fun e => (e.key, e.val)) = m.map (fun p => (Value.string p.1, p.2)) →
    Instr.findNow .string (.string x) es i = some ((m.findIdx? (·.1 == x)).map fun j => (i + j, ((m[j]?).map (·.2)).getD undef))
  | [], [], _, _ => rfl
  | [], _ :: _, _, h => by cases h
  | _ :: _, [], _, h => by cases h
  | e :: es, p :: m, i, h => by
    simp only [List.map_cons, List.cons.injEq, Prod.mk.injEq] at h
    obtain ⟨⟨h1, h2⟩, h3⟩ := h
    have ih := findNow_str (x := x) (i := i + 1) h3
    simp only [Instr.findNow, h1, Instr.sameNow, List.findIdx?_cons]
    by_cases hx : p.1 = x
    · subst hx
      have e1 : (p.1 == p.1) = true := (MapKept.bytes_beq _ _).2 rfl
      rw [e1]
      simp [h2]
    · have h4 : (x == p.1) = false := by
        cases hb : x == p.1 with
        | false => rfl
        | true => exact absurd ((MapKept.bytes_beq _ _).1 hb).symm hx
      have h5 : (p.1 == x) = false := by
        cases hb : p.1 == x with
        | false => rfl
        | true => exact absurd ((MapKept.bytes_beq _ _).1 hb) hx
      simp only [h4, h5, Bool.false_eq_true, if_false]
      rw [ih]
      cases m.findIdx? (·.1 == x) with
      | none => rfl
      | some j => simp; omega
theorem keyStr {kt : TypeId} (ht : P.underlying kt = some .string) : KeyK P kt ByteArray (fun x => .string x) where
  check := fun e x w => MapKept.run_checkKey (k := .string x) ht (by simp [MapKept.IsKey]) e 9999
  find := fun w es m x h => by
    have := findNow_str (x := x) (i := 0) h
    simp only [Nat.zero_add] at this
    exact MapKept.run_findKey ht this
  bits := fun a b h => by simpa [Instr.sameBits] using h
  eq := fun a b h => (MapKept.bytes_beq _ _).1 h
def intFields (P : Program) (cs : Array Value) : List Field → Bool
  | [] => true
  | f :: fs => (match P.underlying f.type, cs[f.offset]? with
    | some (.int _), some (.int _ _) => true
    | _, _ => false) && intFields P cs fs
theorem run_checkKey_ints {t : TypeId} {fs : Array Field} {cs : Array Value} (ht : P.underlying t = some (.struct fs)) (h : intFields P cs fs.toList = true) (e : Bool) (n : Nat) (w : World) : (Instr.checkKey e (n + 2) t (.agg cs)).run P w = .ok () w := by
  rw [Instr.checkKey]
  simp only [Sem.run_bind, run_underlying ht, Result.andThen_ok]
  rw [← Array.forIn_toList]
  generalize fs.toList = l at h ⊢
  clear ht
  induction l with
  | nil => simp
  | cons f l ih =>
    simp only [intFields, Bool.and_eq_true] at h
    obtain ⟨h1, h2⟩ := h
    have ih' := ih h2
    split at h1
    · rename_i k0 k a hu hx
      have hp : (part f.type cs f.offset).run P w = .ok (.int k a) w := by simp [part, isAgg, run_underlying hu, hx]
      have hc : (Instr.checkKey e (n + 1) f.type (.int k a)).run P w = .ok () w := by
        rw [Instr.checkKey]
        simp [run_underlying hu]
      simp only [List.forIn_cons, Sem.run_bind, Sem.run_ite]
      split
      · simp only [hp, Result.andThen_ok, hc, Sem.run_pure]
        exact ih'
      · simp only [Sem.run_pure, Result.andThen_ok]
        exact ih'
    · cases h1
theorem run_findAsking_ints {t : TypeId} {K : Type} [BEq K] {enc : K → Value} (heq : ∀ (w : World) (a b : K), (Op.equal t (enc a) (enc b)).run P w = .ok (a == b) w) {x : K} (hs : ∀ a b : K, (a == b) = (b == a)) : ∀ {es : List MapEntry} {m : List (K × Value)} {i : Nat} {w : World}, es.map (fun e => (e.key, e.val)) = m.map (fun p => (enc p.1, p.2)) →
    (Instr.findAsking t (enc x) es i).run P w = .ok ((m.findIdx? (·.1 == x)).map fun j => (i + j, ((m[j]?).map (·.2)).getD undef)) w
  | [], [], _, _, _ => rfl
  | [], _ :: _, _, _, h => by cases h
  | _ :: _, [], _, _, h => by cases h
  | e :: es, p :: m, i, w, h => by
    simp only [List.map_cons, List.cons.injEq, Prod.mk.injEq] at h
    obtain ⟨⟨h1, h2⟩, h3⟩ := h
    have ih := run_findAsking_ints heq (x := x) hs (i := i + 1) (w := w) h3
    simp only [Instr.findAsking, h1, Sem.run_bind, heq, Result.andThen_ok, List.findIdx?_cons, hs x p.1]
    cases hx : p.1 == x with
    | true => simp [h2]
    | false =>
      simp only [Bool.false_eq_true, if_false]
      rw [ih]
      cases m.findIdx? (·.1 == x) with
      | none => rfl
      | some j => simp; omega
theorem keyRec {kt : TypeId} {K : Type} [BEq K] {arr : K → Array Value} (ht : P.underlying kt = some (.struct (P.fieldsOf kt))) (hp : P.stoodInHeld kt = false) (hf : ∀ a, intFields P (arr a) (P.fieldsOf kt).toList = true)
    (he : ∀ a b, eqInts P (arr a) (arr b) (P.fieldsOf kt).toList = some (a == b)) (hs : ∀ a b : K, (a == b) = (b == a)) (hb : ∀ k k' : K, (k == k') = true → k = k') (hbits : ∀ k : K, Instr.sameBits 10000 (.agg (arr k)) (.agg (arr k)) = true) : KeyK P kt K (fun k => .agg (arr k)) where
  check := fun e k w => run_checkKey_ints ht (hf k) e 9998 w
  find := fun w es m k h => by
    have heq : ∀ (w : World) (a b : K), (Op.equal kt (.agg (arr a)) (.agg (arr b))).run P w = .ok (a == b) w := fun w a b => by
      show (Op.equalIn 10000 kt (.agg (arr a)) (.agg (arr b))).run P w = _
      rw [run_equalIn_agg w 9999 kt _ _ ht hp, run_eqInts (he a b)]
    have := run_findAsking_ints (enc := fun k => .agg (arr k)) heq (x := k) hs (i := 0) (w := w) h
    simp only [Nat.zero_add] at this
    unfold Instr.findKey
    rw [Sem.run_bind, run_underlying ht, Result.andThen_ok]
    cases es with
    | nil =>
      cases m with
      | nil => rfl
      | cons _ _ => cases h
    | cons e es =>
      have hn : Instr.findNow (.struct (P.fieldsOf kt)) (.agg (arr k)) (e :: es) 0 = none := by
        simp [Instr.findNow, Instr.sameNow]
      simp only [hn]
      exact this
  bits := fun a b h => by rw [hb a b h]; exact hbits b
  eq := hb
end
def VMapIs {K : Type} (enc : K → Value) (b : Nat) (m : List (K × Value)) (w : World) : Prop :=
  ∃ es clock, w.heap[b]? = some (.map es clock) ∧ es.toList.map (fun e => (e.key, e.val)) = m.map (fun p => (enc p.1, p.2)) ∧ (∀ x ∈ es.toList, x.born < clock) ∧ (es.toList.map (·.born)).Nodup
def vmap {K : Type} (enc : K → Value) (b : Nat) (m : List (K × Value)) : HP where
  sat w F := F b ∧ VMapIs enc b m w
  loc hFG hk h := ⟨hFG _ h.1, let ⟨es, c, h1, h2⟩ := h.2; ⟨es, c, (hk _ h.1).trans h1, h2⟩⟩
def vassoc {K : Type} [BEq K] (m : List (K × Value)) (x : K) : Option Value := (m.find? (·.1 == x)).map (·.2)
theorem findIdx_vassoc {K : Type} [BEq K] (m : List (K × Value)) (x : K) : ((m.findIdx? (·.1 == x)).map fun j => ((m[j]?).map (·.2)).getD undef) = vassoc m x := by
  unfold vassoc
  induction m with
  | nil => rfl
  | cons p m ih =>
    simp only [List.findIdx?_cons, List.find?_cons]
    cases hx : p.1 == x with
    | true => simp
    | false =>
      rw [← ih]
      cases m.findIdx? (·.1 == x) with
      | none => rfl
      | some j => simp
section
variable {P : Program} {E : Env} {n : Nat} {D : List Deferred} {ts : List (Nat × Value)} {l : List HP} {ops : Array Oper} {Q : Exit → Act → World → Prop} {i : Nat} {ty : TypeId} {pos : String} {af : Array Edge} {g : Option (Nat × Bool)} {K : Type} {enc : K → Value}
theorem vmapIs {b : Nat} {m : List (K × Value)} {r : List HP} (s : Sel (vmap enc b m) l r) : ∀ w, Holds E w l → VMapIs enc b m w := fun w hw => by
  obtain ⟨F1, _, _, _, _, hp, _⟩ := (hw.sel s).star
  exact hp.2
theorem Holds.setVMap {b : Nat} {m m' : List (K × Value)} {r : List HP} {w : World} {es : Array MapEntry} {c : Nat} (hw : Holds E w (vmap enc b m :: r)) (hes : es.toList.map (fun e => (e.key, e.val)) = m'.map fun p => (enc p.1, p.2)) (h1 : ∀ x ∈ es.toList, x.born < c) (h2 : (es.toList.map (·.born)).Nodup) :
    Holds E { w with heap := w.heap.setIfInBounds b (.map es c) } (vmap enc b m' :: r) := by
  refine hw.turn rfl rfl rfl (by simp) fun F1 hp hF => ⟨F1, fun k hk => ⟨.inl hk, by simpa using (hF k hk).1⟩, ⟨hp.1, es, c, ?_, hes, h1, h2⟩, fun k _ hk => ?_⟩
  · have := (hF b hp.1).1
    simp [this]
  · have : k ≠ b := fun h => by subst h; exact hk hp.1
    simp [Array.getElem?_setIfInBounds_ne (Ne.symm this)]
end
section
variable {P : Program} {E : Env} {n : Nat} {D : List Deferred} {ts : List (Nat × Value)} {l : List HP} {ops : Array Oper} {Q : Exit → Act → World → Prop} {i : Nat} {ty : TypeId} {pos : String} {af : Array Edge} {g : Option (Nat × Bool)} {K : Type} [BEq K] {enc : K → Value}
theorem ev_vlook {t kt et : TypeId} {x y : Operand} {b : Nat} {m : List (K × Value)} {a : K} {z : Value} (ht : P.underlying t = some (.map kt et)) (hk : KeyK P kt K enc) (hz : zeroIs P et z) (hx : ev ts x = some (.map (some b))) (hy : ev ts y = some (enc a)) :
    Ev P ts (.lookup t x y true) (.tuple #[(vassoc m a).getD z, .bool (vassoc m a).isSome]) (VMapIs enc b m) := by
  intro ac w _ _ _ _ _ kn ⟨es, c, hb, hm, _⟩
  have h1 := hk.find w es.toList m a hm
  have h2 := findIdx_vassoc m a
  have hg := MapKept.run_getObj_map (P := P) hb
  simp only [execOp, kn.eval hx, kn.eval hy, Instr.lookup, Sem.run_bind, run_underlying ht, Result.andThen_ok, hg, hk.check, h1, Sem.run_pure]
  cases hf : m.findIdx? (·.1 == a) with
  | none =>
    rw [hf] at h2
    simp only [Option.map_none] at h2
    simp [← h2, run_zeroIs hz]
  | some j =>
    rw [hf] at h2
    simp only [Option.map_some] at h2
    simp [← h2]
theorem ev_vlookY {t kt et : TypeId} {x y : Operand} {b : Nat} {m : List (K × Value)} {a : K} {v : Value} (ht : P.underlying t = some (.map kt et)) (hk : KeyK P kt K enc) (hx : ev ts x = some (.map (some b))) (hy : ev ts y = some (enc a)) (hv : vassoc m a = some v) :
    Ev P ts (.lookup t x y true) (.tuple #[v, .bool true]) (VMapIs enc b m) := by
  intro ac w _ _ _ _ _ kn ⟨es, c, hb, hm, _⟩
  have h1 := hk.find w es.toList m a hm
  have h2 := findIdx_vassoc m a
  rw [hv] at h2
  have hg := MapKept.run_getObj_map (P := P) hb
  simp only [execOp, kn.eval hx, kn.eval hy, Instr.lookup, Sem.run_bind, run_underlying ht, Result.andThen_ok, hg, hk.check, h1, Sem.run_pure]
  cases hf : m.findIdx? (·.1 == a) with
  | none => rw [hf] at h2; simp at h2
  | some j =>
    rw [hf] at h2
    simp only [Option.map_some, Option.some.injEq] at h2
    simp [h2]
theorem ev_vlookN {t kt et : TypeId} {x y : Operand} {b : Nat} {m : List (K × Value)} {a : K} {z : Value} (ht : P.underlying t = some (.map kt et)) (hk : KeyK P kt K enc) (hz : zeroIs P et z) (hx : ev ts x = some (.map (some b))) (hy : ev ts y = some (enc a)) (hv : vassoc m a = none) :
    Ev P ts (.lookup t x y true) (.tuple #[z, .bool false]) (VMapIs enc b m) := by
  have := ev_vlook (m := m) ht hk hz hx hy
  rw [hv] at this
  exact this
theorem ev_vget {t kt et : TypeId} {x y : Operand} {b : Nat} {m : List (K × Value)} {a : K} {v : Value} (ht : P.underlying t = some (.map kt et)) (hk : KeyK P kt K enc) (hx : ev ts x = some (.map (some b))) (hy : ev ts y = some (enc a)) (hv : vassoc m a = some v) :
    Ev P ts (.lookup t x y false) v (VMapIs enc b m) := by
  intro ac w _ _ _ _ _ kn ⟨es, c, hb, hm, _⟩
  have h1 := hk.find w es.toList m a hm
  have h2 := findIdx_vassoc m a
  rw [hv] at h2
  have hg := MapKept.run_getObj_map (P := P) hb
  simp only [execOp, kn.eval hx, kn.eval hy, Instr.lookup, Sem.run_bind, run_underlying ht, Result.andThen_ok, hg, hk.check, h1, Sem.run_pure]
  cases hf : m.findIdx? (·.1 == a) with
  | none => rw [hf] at h2; simp at h2
  | some j =>
    rw [hf] at h2
    simp only [Option.map_some, Option.some.injEq] at h2
    simp [h2]
theorem o_vnew {t kt et : TypeId} {x y z : Operand} {b : Nat} {m : List (K × Value)} {a : K} {v : Value} {r : List HP} {d : Option Tmp} {Kk : Act → World → Prop} (hd : d = none) (ht : P.underlying t = some (.map kt et)) (hk : KeyK P kt K enc) (hx : ev ts x = some (.map (some b))) (hy : ev ts y = some (enc a)) (hz : ev ts z = some v)
    (s : Sel (vmap enc b m) l r) (hn : vassoc m a = none) (h : At E n D ts (vmap enc b (m ++ [(a, v)]) :: r) Kk) : At E n D ts l (fun ac w => (Oper.mk d (.mapUpdate t x y z) ty pos af g).wp P ac w Kk Q) := fun ac w f hw => by
  subst hd
  have hw' := hw.sel s
  obtain ⟨es, c, hb, hm, hs1, hs2⟩ := vmapIs .head w hw'
  have h1 := hk.find w es.toList m a hm
  have h2 := findIdx_vassoc m a
  have hg := MapKept.run_getObj_map (P := P) hb
  have hf : m.findIdx? (·.1 == a) = none := by
    cases hf : m.findIdx? (·.1 == a) with
    | none => rfl
    | some j => rw [hf, hn] at h2; simp at h2
  rw [hf] at h1
  have hs := MapKept.run_setObj_map (P := P) (.map (es.push { key := enc a, val := v, born := c }) (c + 1)) hb
  have hr : (execOp ac.eval (Oper.mk none (.mapUpdate t x y z) ty pos af g)).run P w = .ok .skip { w with heap := w.heap.setIfInBounds b (.map (es.push { key := enc a, val := v, born := c }) (c + 1)) } := by
    simp only [execOp, f.eval hx, f.eval hy, f.eval hz, Instr.mapUpdate, Sem.run_bind, run_underlying ht, Result.andThen_ok, hg, hk.check, h1, Option.map_none, hs, Sem.run_pure]
  show (Oper.mk none (.mapUpdate t x y z) ty pos af g).wp P ac w Kk Q
  unfold Oper.wp
  rw [hr]
  refine h ac _ f (hw'.setVMap (by simp [hm]) (fun y hy => ?_) ?_)
  · rw [Array.toList_push, List.mem_append] at hy
    rcases hy with hy | hy
    · exact Nat.lt_succ_of_lt (hs1 y hy)
    · simp at hy; subst hy; exact Nat.lt_succ_self _
  · rw [Array.toList_push, List.map_append, List.nodup_append]
    refine ⟨hs2, by simp, fun y hy z hz => ?_⟩
    obtain ⟨e, he, rfl⟩ := List.mem_map.1 hy
    simp at hz
    subst hz
    exact Nat.ne_of_lt (hs1 e he)
theorem o_vdel {t kt et : TypeId} {x y : Operand} {b : Nat} {m : List (K × Value)} {a : K} {r : List HP} {d : Option Tmp} {Kk : Act → World → Prop} (hd : d = none) (ht : P.underlying t = some (.map kt et)) (hk : KeyK P kt K enc) (hx : ev ts x = some (.map (some b))) (hy : ev ts y = some (enc a))
    (s : Sel (vmap enc b m) l r) (h : At E n D ts (vmap enc b (m.eraseP (·.1 == a)) :: r) Kk) : At E n D ts l (fun ac w => (Oper.mk d (.call { callee := .builtin .delete, args := #[x, y], argTypes := #[t, kt] }) ty pos af g).wp P ac w Kk Q) := fun ac w f hw => by
  subst hd
  have hw' := hw.sel s
  obtain ⟨es, c, hb, hm, hs1, hs2⟩ := vmapIs .head w hw'
  have h1 := hk.find w es.toList m a hm
  have hg := MapKept.run_getObj_map (P := P) hb
  obtain ⟨es', hes', hs1', hs2', hrun⟩ : ∃ es' : Array MapEntry, es'.toList.map (fun e => (e.key, e.val)) = (m.eraseP (·.1 == a)).map (fun p => (enc p.1, p.2)) ∧ (∀ x ∈ es'.toList, x.born < c) ∧ (es'.toList.map (·.born)).Nodup ∧ (Builtin.delete_ #[t, kt] ty #[.map (some b), enc a]).run P w = .ok (.tuple #[]) { w with heap := w.heap.setIfInBounds b (.map es' c) } := by
    cases hf : m.findIdx? (·.1 == a) with
    | none =>
      rw [hf] at h1
      have hs := MapKept.run_setObj_map (P := P) (.map es c) hb
      refine ⟨es, ?_, hs1, hs2, ?_⟩
      · rw [hm, List.eraseP_of_forall_not]
        intro p hp
        have := List.findIdx?_eq_none_iff.1 hf p hp
        simpa using this
      · simp only [Builtin.delete_, List.getElem?_toArray, List.getElem?_cons_zero, List.getElem?_cons_succ, Sem.run_bind, run_underlying ht, Result.andThen_ok, hg, hk.check, h1, Option.map_none, hs, Sem.run_pure]
    | some j =>
      rw [hf] at h1
      have hs := MapKept.run_setObj_map (P := P) (.map (es.eraseIdxIfInBounds j) c) hb
      have he : (es.eraseIdxIfInBounds j).toList = es.toList.eraseIdx j := by
        unfold Array.eraseIdxIfInBounds
        split
        · simp
        · rename_i hlt
          rw [List.eraseIdx_of_length_le (by simpa using hlt)]
      refine ⟨es.eraseIdxIfInBounds j, ?_, ?_, ?_, ?_⟩
      · rw [he, map_erase, hm, ← map_erase, List.eraseP_eq_eraseIdx, hf]
      · intro x hx
        rw [he] at hx
        exact hs1 x ((List.eraseIdx_sublist _ _).subset hx)
      · rw [he]
        exact hs2.sublist ((List.eraseIdx_sublist _ _).map _)
      · simp only [Builtin.delete_, List.getElem?_toArray, List.getElem?_cons_zero, List.getElem?_cons_succ, Sem.run_bind, run_underlying ht, Result.andThen_ok, hg, hk.check, h1, Option.map_some, hs, Sem.run_pure]
  have hr : (execOp ac.eval (Oper.mk none (.call { callee := .builtin .delete, args := #[x, y], argTypes := #[t, kt] }) ty pos af g)).run P w = .ok (.value (.tuple #[])) { w with heap := w.heap.setIfInBounds b (.map es' c) } := by
    simp [execOp, resolve, invoke, builtin, f.eval hx, f.eval hy, hrun]
  show (Oper.mk none (.call { callee := .builtin .delete, args := #[x, y], argTypes := #[t, kt] }) ty pos af g).wp P ac w Kk Q
  unfold Oper.wp
  rw [hr]
  exact h ac _ f (hw'.setVMap hes' hs1' hs2')
end
section
variable {P : Program} {E : Env} {n : Nat} {D : List Deferred} {ts : List (Nat × Value)} {l : List HP} {ops : Array Oper} {Q : Exit → Act → World → Prop} {i : Nat} {ty : TypeId} {pos : String} {af : Array Edge} {g : Option (Nat × Bool)} {K : Type} {enc : K → Value}
theorem ev_vlen {t kt et : TypeId} {x : Operand} {b : Nat} {m : List (K × Value)} (ht : P.underlying t = some (.map kt et)) (hx : ev ts x = some (.map (some b))) : Ev P ts (.call { callee := .builtin .len, args := #[x], argTypes := #[t] }) (.int .i64 m.length) (VMapIs enc b m) := by
  intro a w _ _ _ _ _ kn ⟨es, c, hb, hm, _⟩
  have hg := MapKept.run_getObj_map (P := P) hb
  have hl : es.size = m.length := by
    have := congrArg List.length hm
    simpa using this
  simp [execOp, resolve, invoke, builtin, Builtin.len_, kn.eval hx, run_underlying ht, goInt, hg, hl]
variable (enc) in
theorem o_makeVMap {t : TypeId} {Kk : Act → World → Prop} (hi : Nat.blt i n = true) (h : ∀ b, At E n D ((i, .map (some b)) :: ts) (vmap enc b [] :: l) Kk) : At E n D ts l (fun ac w => (Oper.mk (some i) (.makeMap t none) ty pos af g).wp P ac w Kk Q) := fun ac w f hw => by
  have hr : (execOp ac.eval (Oper.mk (some i) (.makeMap t none) ty pos af g)).run P w = .ok (.value (.map (some w.heap.size))) (w.alloc (.map #[] 0)) := rfl
  show (Oper.mk (some i) (.makeMap t none) ty pos af g).wp P ac w Kk Q
  unfold Oper.wp
  rw [hr]
  have h0 := hw.alloc (.map #[] 0)
  refine h _ _ _ (f.put i (Nat.le_of_ble_eq_true hi) _) (h0.ent ?_)
  exact fun w F ⟨F1, F2, h1, h2, hd, hp, hl⟩ => ⟨F1, F2, h1, h2, hd, ⟨hp.1, #[], 0, hp.2, rfl, by simp, by simp⟩, hl⟩
end
end Go.SL

namespace Go.SL
open Go Go.RowKit
section
variable {P : Program} {ts : List (Nat × Value)}
def IsBlk (b : Nat) (w : World) : Prop := ∃ cs t, w.heap[b]? = some (.cells cs t (0, 0))
theorem ev_eqlP {t t' e : TypeId} {x y : Operand} {b c m : Nat} {r : Bool} (ht : P.underlying t = some (.pointer e)) (hz : sizeIs P e (m + 1)) (hx : ev ts x = some (.pointer (some ⟨b, 0, none⟩))) (hy : ev ts y = some (.pointer (some ⟨c, 0, none⟩))) (hr : decide (b = c) = r) : Ev P ts (.binOp .eql t x y t') (.bool r) (fun w => IsBlk b w ∧ IsBlk c w) := by
  intro ac w _ _ _ _ _ kn ⟨⟨cs, u, hb⟩, cs', u', hc⟩
  subst hr
  refine exec_bin (kn.eval hx) (kn.eval hy) (by simp [eqGuard]) (bin_eql rfl fun d => ?_)
  by_cases h : b = c
  · subst h
    simp [Op.equalIn, run_underlying ht, run_sizeIs hz, run_sameAddr_same]
  · have := run_sameAddr_other (P := P) w (a := ⟨b, 0, none⟩) (b := ⟨c, 0, none⟩) (by simp) hb hc
    simp [Op.equalIn, run_underlying ht, run_sizeIs hz, this, h]
end
end Go.SL
namespace Go.Proofs.YtmeegfamopaljaaGreatDoor
open Go Go.RowKit Go.SL
variable {G : Env → Prop}
abbrev ptr (b : Nat) : Value := .pointer (some ⟨b, 0, none⟩)
abbrev ptrsAt (v : Value) (bs : List Nat) : HP := row 338 1 v bs.length (bs.map ptr)
theorem infoPtr : (Tryz.prog.info? 338).map (fun i => (i.zero, i.size, i.bytes)) = some (some (.pointer none), 1, 8) := by kernel_rfl
structure Below' (p : HP) (bs : List Nat) (sq : Nat → Nat) (n : Nat) : Prop where
  lt : ∀ b ∈ bs, sq b < n
  cell : ∀ w F, p.sat w F → ∀ b ∈ bs, w.cell? ⟨b, 4, none⟩ = some (.int .u64 (sq b))
theorem Below'.at {E : Env} {p : HP} {bs : List Nat} {sq : Nat → Nat} {n : Nat} {l r : List HP} {b : Nat} (h : Below' p bs sq n) (s : Sel p l r) (hb : b ∈ bs) : ∀ w, Holds E w l → CellIs ⟨b, 4, none⟩ (.int .u64 (sq b)) w := fun w hw => by
  obtain ⟨F1, _, _, _, _, hp, _⟩ := (hw.sel s).star
  exact h.cell w F1 hp b hb
theorem sub_neg {a n : Nat} (h : a < n) (hn : n < 9223372036854775808) : IntKind.i64.wrap (IntKind.u64.wrap ((a : Int) - (n : Int))) = (a : Int) - n := by
  rw [mu64]
  have : ((a : Int) - n) % 18446744073709551616 = (a : Int) - n + 18446744073709551616 := by omega
  rw [this, IntKind.wrap_i64]
  omega
set_option maxRecDepth 10000 in
theorem put1 {p : HP} {bs : List Nat} {sq : Nat → Nat} {n : Nat} (hp : Below' p bs sq n) (hn : n < 9223372036854775808) (b : Nat) (hb : b ∈ bs) : Does Tryz.prog G 229 [ptr b, .int .u64 n].toArray [p] fun v m => v = .int .i64 ((sq b : Int) - n) ∧ m = [p] := by
  have hlt := hp.lt b hb
  refine Does.body Tryz.func229 rfl rfl fun E fr hE => ?_
  refine At.app1 ?_
  refine At.seq ?_
  refine At.region ?_
  refine L.as rfl rfl ?_
  refine L.nil ?_
  refine At.then ?_
  refine At.seq ?_
  refine At.region ?_
  refine L.mv rfl rfl ?_
  refine L.nc rfl rfl ?_
  refine L.fa 4 rfl rfl rfl ?_
  refine L.val rfl (ev_load1 rfl rfl) (hp.at .head hb) ?_
  refine L.mv rfl rfl ?_
  refine L.pure rfl (ev_sub rfl rfl rfl) ?_
  refine L.pure rfl (ev_conv rfl rfl rfl (sub_neg hlt hn)) ?_
  refine L.as rfl rfl ?_
  refine L.nil ?_
  refine At.then ?_
  refine At.ret ?_
  exact At.ret1 [_] rfl rfl ⟨rfl, rfl⟩ (Ent.refl _)
theorem half (i n : Nat) (h : i < n) (hn : n ≤ 100000) : ((IntKind.u64.wrap ((i + n : Nat) : Int))).fdiv (2 ^ min ((1 : Int)).toNat IntKind.u64.bits) = (((i + n) / 2 : Nat) : Int) := by
  rw [mu64]
  have h1 : ((i + n : Nat) : Int) % 18446744073709551616 = ((i + n : Nat) : Int) := by omega
  have h2 : (2 : Int) ^ min ((1 : Int)).toNat IntKind.u64.bits = 2 := rfl
  rw [h1, h2, Int.fdiv_eq_ediv_of_nonneg _ (by omega)]
  omega
set_option maxRecDepth 10000 in
theorem search_end {p : HP} {bs : List Nat} {sq : Nat → Nat} {n : Nat} {A : Option Addr} {c : Nat} (hp : Below' p bs sq n) (hn : n < 9223372036854775808) (hl : bs.length ≤ 100000) :
    Does Tryz.prog G 228 [.slice A bs.length c, .int .u64 n, .func (.func 229) #[] #[]].toArray [ptrsAt (.slice A bs.length c) bs, p]
      fun v m => v = .tuple #[.int .i64 bs.length, .bool false] ∧ m = [ptrsAt (.slice A bs.length c) bs, p] := by
  refine Does.body Tryz.func228 rfl rfl fun E fr hE => ?_
  refine At.app2 ?_
  refine At.formRow .head ?_
  intro A' c' hA hnil hform hc1 hc2 _
  injection hA with hA _ hcc
  subst hA; subst hcc
  have hc3 : c ≤ 9223372036854775807 := by unfold maxLen at hc2; omega
  refine At.seq ?_
  refine At.region ?_
  refine L.as rfl rfl ?_
  refine L.as rfl rfl ?_
  refine L.nil ?_
  refine At.then ?_
  refine At.seq ?_
  refine At.region ?_
  refine L.mv rfl rfl ?_
  refine L.pure rfl (ev_lenS rfl rfl) ?_
  refine L.as rfl rfl ?_
  refine L.nil ?_
  refine At.then ?_
  refine At.seq ?_
  refine At.region ?_
  refine L.mv rfl rfl ?_
  refine L.as rfl rfl ?_
  refine L.as rfl rfl ?_
  refine L.nil ?_
  refine At.then ?_
  refine At.seq ?_
  refine At.block ?_
  refine At.loop (X := Nat) (fun i => [(9, .int .i64 i), (10, .int .i64 bs.length), (8, .int .i64 bs.length), (0, .slice A bs.length c), (1, .int .u64 n), (2, .func (.func 229) #[] #[])]) (fun _ => ptrsAt (.slice A bs.length c) bs :: p :: fr) (fun i => i ≤ bs.length) (fun i => bs.length - i) 0 (by omega) ⟨rfl, rfl, rfl, rfl, rfl, rfl, trivial⟩ (Ent.refl _) ?_
  intro i hi
  refine At.seq ?_
  refine At.seq ?_
  refine At.region ?_
  refine L.mv rfl rfl ?_
  refine L.mv rfl rfl ?_
  refine L.pure rfl (ev_lss rfl rfl rfl) ?_
  refine L.nil ?_
  refine At.then ?_
  refine At.condD rfl (fun c17 => ?_) (fun c17 => ?_)
  ·
    have hlt : i < bs.length := by omega
    obtain ⟨g, rfl⟩ : ∃ g, A = some ⟨g, 0, none⟩ := by
      cases A with
      | none => have := (hnil rfl).1; omega
      | some ad => obtain ⟨g, rfl⟩ := hform ad rfl; exact ⟨g, rfl⟩
    obtain ⟨h, hh⟩ : ∃ h, h = (i + bs.length) / 2 := ⟨_, rfl⟩
    have hhl : h < bs.length := by omega
    obtain ⟨b, hb⟩ : ∃ b, bs[h]? = some b := ⟨bs[h], by simp [hhl]⟩
    have hbm := List.mem_of_getElem? hb
    have hblt := hp.lt b hbm
    refine At.skip ?_
    refine At.then ?_
    refine At.block ?_
    refine At.seq ?_
    refine At.region ?_
    refine L.mv rfl rfl ?_
    refine L.mv rfl rfl ?_
    refine L.pure rfl (ev_add (r := ((i + bs.length : Nat) : Int)) rfl rfl (by rw [w64 (by omega)]; omega)) ?_
    refine L.pure rfl (ev_conv rfl rfl rfl rfl) ?_
    refine L.pure rfl (ev_shr (r := (h : Int)) rfl rfl (by omega) (by rw [hh]; exact half i bs.length hlt hl)) ?_
    refine L.pure rfl (ev_conv rfl rfl rfl (w64 (by omega))) ?_
    refine L.as rfl rfl ?_
    refine L.nil ?_
    refine At.then ?_
    refine At.seq ?_
    refine At.region ?_
    refine L.mv rfl rfl ?_
    refine L.mv rfl rfl ?_
    refine L.mv rfl rfl ?_
    refine L.pure rfl (ev_ixN (z := 1) rfl rfl rfl rfl hhl) ?_
    refine L.val rfl (ev_load1 (v := ptr b) rfl rfl) (cellIn .head (by simp [hb])) ?_
    refine L.mv rfl rfl ?_
    refine L.op rfl (o_callV rfl rfl rfl rfl hE (put1 hp hn b hbm) (Ent.sel (.tail (.head))) ?_)
    rintro v m ⟨rfl, rfl⟩
    refine At.app1 ?_
    refine L.pure rfl (ev_lss (r := true) rfl rfl (by rw [decide_eq_true_eq]; omega)) ?_
    refine L.nil ?_
    refine At.then ?_
    refine At.condT rfl ?_
    refine At.region ?_
    refine L.mv rfl rfl ?_
    refine L.pure rfl (ev_add rfl rfl (w64 (by omega))) ?_
    refine L.as rfl rfl ?_
    refine L.nil ?_
    refine At.inBlock ?_
    exact At.round (h + 1) (by omega) (by omega) ⟨rfl, rfl, rfl, rfl, rfl, rfl, trivial⟩ (Ent.perm (List.Perm.swap _ _ _))
  ·
    obtain rfl : i = bs.length := by omega
    refine At.exit ?_
    refine At.thenExit (At.roundExit (At.inBlockHit (At.then ?_)))
    refine At.seq ?_
    refine At.region ?_
    refine L.mv rfl rfl ?_
    refine L.mv rfl rfl ?_
    refine L.mv rfl rfl ?_
    refine L.pure rfl (ev_lss (r := false) rfl rfl (by simp)) ?_
    refine L.mv rfl rfl ?_
    refine L.off rfl rfl rfl rfl rfl rfl ?_
    refine L.off rfl rfl rfl rfl rfl rfl ?_
    refine L.off rfl rfl rfl rfl rfl rfl ?_
    refine L.off rfl rfl rfl rfl rfl rfl ?_
    refine L.off rfl rfl rfl rfl rfl rfl ?_
    refine L.off rfl rfl rfl rfl rfl rfl ?_
    refine L.off rfl rfl rfl rfl rfl rfl ?_
    refine L.off rfl rfl rfl rfl rfl rfl ?_
    refine L.pure rfl (ev_pick rfl rfl rfl) ?_
    refine L.as rfl rfl ?_
    refine L.as rfl rfl ?_
    refine L.nil ?_
    refine At.then ?_
    refine At.ret ?_
    exact At.ret2 [_, _] rfl rfl rfl ⟨rfl, rfl⟩ (Ent.refl _)
set_option maxRecDepth 10000 in
theorem insert_end {bs : List Nat} {A : Option Addr} {c g t : Nat} (hl : bs.length ≤ 100000) :
    Does Tryz.prog G 230 [.slice A bs.length c, .int .i64 bs.length, .slice (some ⟨g, 0, none⟩) 1 1].toArray [ptrsAt (.slice A bs.length c) bs, blk g 338 #[ptr t]]
      fun v m => (∃ A' c', v = .slice A' (bs ++ [t]).length c') ∧ m = [ptrsAt v (bs ++ [t])] := by
  refine Does.body Tryz.func230 rfl rfl fun E fr hE => ?_
  refine At.app2 ?_
  refine At.formRow .head ?_
  intro A' c' hA hnil hform hc1 hc2 _
  injection hA with hA _ hcc
  subst hA; subst hcc
  refine At.seq ?_
  refine At.region ?_
  refine L.as rfl rfl ?_
  refine L.nil ?_
  refine At.then ?_
  refine At.seq ?_
  refine At.region ?_
  refine L.mv rfl rfl ?_
  refine L.mv rfl rfl ?_
  refine L.pure rfl (ev_slice (z := 1) (a := bs.length) (b := bs.length) rfl rfl rfl ⟨_, rfl⟩ rfl (Nat.le_refl _) hc1) ?_
  refine L.nil ?_
  refine At.then ?_
  refine At.seq ?_
  refine At.region ?_
  refine L.mv rfl rfl ?_
  refine L.pure rfl (ev_lenS rfl rfl) ?_
  refine L.as rfl rfl ?_
  refine L.nil ?_
  refine At.then ?_
  refine At.seq ?_
  refine At.seq ?_
  refine At.region ?_
  refine L.mv rfl rfl ?_
  refine L.pure rfl (ev_eql (r := false) rfl rfl rfl) ?_
  refine L.nil ?_
  refine At.then ?_
  refine At.condF rfl ?_
  refine At.skip ?_
  refine At.then ?_
  refine At.seq ?_
  refine At.region ?_
  refine L.mv rfl rfl ?_
  refine L.pure rfl (ev_lenS rfl rfl) ?_
  refine L.as rfl rfl ?_
  refine L.nil ?_
  refine At.then ?_
  refine At.seq ?_
  refine At.seq ?_
  refine At.region ?_
  refine L.mv rfl rfl ?_
  refine L.mv rfl rfl ?_
  refine L.pure rfl (ev_eql (r := true) rfl rfl (by simp)) ?_
  refine L.nil ?_
  refine At.then ?_
  refine At.condT rfl ?_
  refine At.seq ?_
  refine At.region ?_
  refine L.mv rfl rfl ?_
  refine L.mv rfl rfl ?_
  refine L.op rfl (o_append rfl rfl infoPtr rfl (by omega) rfl rfl .head (news := [ptr t]) rfl (fun h => by cases h) (srcIs (fun j u h => by simpa using h)) (by simp [Value.oneCell']) (by unfold maxLen; omega) (by omega) fun v' hv' => ?_)
  refine At.formRow .head ?_
  rintro A7 c7 rfl _ _ _ _ _
  refine L.as rfl rfl ?_
  refine L.nil ?_
  refine At.then ?_
  refine At.ret ?_
  refine At.thenRet ?_
  exact At.ret1 [_] rfl rfl ⟨⟨A7, c7, by simp⟩, rfl⟩ (by simp only [ptrsAt, List.length_append, List.map_append, List.length_cons, List.length_nil, List.map_cons, List.map_nil]; exact Ent.cons Ent.drop)
def Blks (p : HP) (bs : List Nat) : Prop := ∀ w F, p.sat w F → ∀ b ∈ bs, IsBlk b w
theorem Blks.at {E : Env} {p : HP} {bs : List Nat} {l r : List HP} {b : Nat} (h : Blks p bs) (s : Sel p l r) (hb : b ∈ bs) : ∀ w, Holds E w l → IsBlk b w := fun w hw => by
  obtain ⟨F1, _, _, _, _, hp, _⟩ := (hw.sel s).star
  exact h w F1 hp b hb
set_option maxRecDepth 10000 in
theorem drop1 {p : HP} {bs : List Nat} (hp : Blks p bs) (o t cl : Nat) (ho : o ∈ bs) (ht : t ∈ bs) : Does Tryz.prog G 226 [ptr o, ptr cl].toArray [blk cl 338 #[ptr t], p] fun v m => v = .bool (decide (o = t)) ∧ m = [blk cl 338 #[ptr t], p] := by
  refine Does.body Tryz.func226 rfl rfl fun E fr hE => ?_
  refine At.app2 ?_
  refine At.seq ?_
  refine At.region ?_
  refine L.as rfl rfl ?_
  refine L.nil ?_
  refine At.then ?_
  refine At.seq ?_
  refine At.region ?_
  refine L.mv rfl rfl ?_
  refine L.ld rfl rfl rfl rfl ?_
  refine L.val rfl (ev_eqlP (m := 6) rfl rfl rfl rfl rfl) (fun w hw => ⟨hp.at (.tail (.head)) ho w hw, hp.at (.tail (.head)) ht w hw⟩) ?_
  refine L.as rfl rfl ?_
  refine L.nil ?_
  refine At.then ?_
  refine At.ret ?_
  exact At.ret1 [_, _] rfl rfl ⟨rfl, rfl⟩ (Ent.refl _)
set_option maxRecDepth 10000 in
theorem index_of {p : HP} {bs : List Nat} (hp : Blks p bs) {A : Option Addr} {c i t cl : Nat} (hi : bs[i]? = some t) (hne : ∀ j, j < i → bs[j]? ≠ some t) (hl : bs.length ≤ 100000) :
    Does Tryz.prog G 251 [.slice A bs.length c, .func (.func 226) #[] #[ptr cl]].toArray [ptrsAt (.slice A bs.length c) bs, blk cl 338 #[ptr t], p]
      fun v m => v = .int .i64 i ∧ m = [ptrsAt (.slice A bs.length c) bs, blk cl 338 #[ptr t], p] := by
  have hil := (List.getElem?_eq_some_iff.1 hi).1
  refine Does.body Tryz.func251 rfl rfl fun E fr hE => ?_
  refine At.app3 ?_
  refine At.formRow .head ?_
  intro A' c' hA hnil hform hc1 hc2 _
  injection hA with hA _ hcc
  subst hA; subst hcc
  obtain ⟨g, rfl⟩ : ∃ g, A = some ⟨g, 0, none⟩ := by
    cases A with
    | none => have := (hnil rfl).1; omega
    | some ad => obtain ⟨g, rfl⟩ := hform ad rfl; exact ⟨g, rfl⟩
  refine At.seq ?_
  refine At.region ?_
  refine L.as rfl rfl ?_
  refine L.nil ?_
  refine At.then ?_
  refine At.seq ?_
  refine At.seq ?_
  refine At.region ?_
  refine L.mv rfl rfl ?_
  refine L.pure rfl (ev_lenS rfl rfl) ?_
  refine L.mv rfl rfl ?_
  refine L.nil ?_
  refine At.then ?_
  refine At.block ?_
  refine At.loop (X := Nat) (fun k => [(8, .int .i64 k), (7, .int .i64 bs.length), (0, .slice (some ⟨g, 0, none⟩) bs.length c), (1, .func (.func 226) #[] #[ptr cl])]) (fun _ => ptrsAt (.slice (some ⟨g, 0, none⟩) bs.length c) bs :: blk cl 338 #[ptr t] :: p :: fr) (fun k => k ≤ i) (fun k => i - k) 0 (by omega) ⟨rfl, rfl, rfl, rfl, trivial⟩ (Ent.refl _) ?_
  intro k hk
  refine At.seq ?_
  refine At.region ?_
  refine L.pure rfl (ev_lss rfl rfl rfl) ?_
  refine L.nil ?_
  refine At.then ?_
  refine At.seq ?_
  refine At.condD rfl (fun c9 => ?_) (fun c9 => ?_)
  ·
    have hlt : k < bs.length := by omega
    obtain ⟨o, ho⟩ : ∃ o, bs[k]? = some o := ⟨bs[k], by simp [hlt]⟩
    have hom := List.mem_of_getElem? ho
    have htm := List.mem_of_getElem? hi
    refine At.skip ?_
    refine At.then ?_
    refine At.seq ?_
    refine At.block ?_
    refine At.seq ?_
    refine At.region ?_
    refine L.mv rfl rfl ?_
    refine L.as rfl rfl ?_
    refine L.nil ?_
    refine At.then ?_
    refine At.seq ?_
    refine At.region ?_
    refine L.mv rfl rfl ?_
    refine L.mv rfl rfl ?_
    refine L.mv rfl rfl ?_
    refine L.pure rfl (ev_ixN (z := 1) rfl rfl rfl rfl hlt) ?_
    refine L.val rfl (ev_load1 (v := ptr o) rfl rfl) (cellIn .head (by simp [ho])) ?_
    refine L.op rfl (o_callV rfl rfl rfl rfl hE (drop1 hp o t cl hom htm) (Ent.sel2 (.tail (.head)) (.tail (.head))) ?_)
    rintro v m ⟨rfl, rfl⟩
    refine At.app2 ?_
    refine L.nil ?_
    refine At.then ?_
    refine At.condD rfl (fun c16 => ?_) (fun c16 => ?_)
    ·
      have hki : k = i := Nat.le_antisymm hk (Nat.le_of_not_lt fun h => hne k h (by rw [ho, c16]))
      subst hki
      refine At.seq ?_
      refine At.region ?_
      refine L.mv rfl rfl ?_
      refine L.as rfl rfl ?_
      refine L.nil ?_
      refine At.then ?_
      refine At.ret ?_
      refine At.inBlockRet (At.thenRet (At.roundRet (At.inBlockRet (At.thenRet ?_))))
      exact At.ret1 [_, _, _] rfl rfl ⟨rfl, rfl⟩ (Ent.sel3 (.tail (.tail (.head))) .head .head)
    ·
      have hki : k ≠ i := fun h => c16 (by subst h; rw [hi] at ho; injection ho with ho; exact ho.symm)
      refine At.skip ?_
      refine At.inBlock (At.then ?_)
      refine At.region ?_
      refine L.pure rfl (ev_add rfl rfl (w64 (by omega))) ?_
      refine L.mv rfl rfl ?_
      refine L.nil ?_
      exact At.round (k + 1) (by omega) (by omega) ⟨rfl, rfl, rfl, rfl, trivial⟩ (Ent.sel3 (.tail (.tail (.head))) .head .head)
  ·
    refine At.exit ?_
    refine At.thenExit (At.roundExit (At.inBlockHit (At.then ?_)))
    refine At.seq ?_
    refine At.region ?_
    refine L.as rfl rfl ?_
    refine L.nil ?_
    refine At.then ?_
    refine At.ret ?_
    exact absurd hk (by omega)
end Go.Proofs.YtmeegfamopaljaaGreatDoor

namespace Go.SL
open Go Go.RowKit
def lset {α : Type} : List α → Nat → List α → List α
  | xs, _, [] => xs
  | xs, o, v :: vs => lset (xs.set o v) (o + 1) vs
theorem lset_length {α : Type} : ∀ (vs xs : List α) (o : Nat), (lset xs o vs).length = xs.length
  | [], _, _ => rfl
  | v :: vs, xs, o => by simp [lset, lset_length vs]
theorem lset_off {α : Type} : ∀ (vs xs : List α) (o j : Nat), (j < o ∨ o + vs.length ≤ j) → (lset xs o vs)[j]? = xs[j]?
  | [], _, _, _, _ => rfl
  | v :: vs, xs, o, j, h => by
    simp only [lset]
    rw [lset_off vs (xs.set o v) (o + 1) j (by simp at h; omega), List.getElem?_set_ne (by simp at h; omega)]
theorem lset_in {α : Type} : ∀ (vs xs : List α) (o j : Nat) (u : α), o + vs.length ≤ xs.length → vs[j]? = some u → (lset xs o vs)[o + j]? = some u
  | [], _, _, _, _, _, h => by simp at h
  | v :: vs, xs, o, 0, u, hl, h => by
    simp at h hl; subst h
    simp only [lset]
    rw [lset_off vs (xs.set o v) (o + 1) (o + 0) (by omega)]
    simp only [Nat.add_zero] at hl ⊢
    exact List.getElem?_set_self (by omega)
  | v :: vs, xs, o, j + 1, u, hl, h => by
    simp only [lset]
    have := lset_in vs (xs.set o v) (o + 1) j u (by simp at hl ⊢; omega) (by simpa using h)
    rw [show o + (j + 1) = o + 1 + j by omega]
    exact this
theorem lset_take {α : Type} : ∀ (vs xs : List α) (o k : Nat), (lset xs o vs).take k = lset (xs.take k) o vs
  | [], _, _, _ => rfl
  | v :: vs, xs, o, k => by simp only [lset]; rw [lset_take vs, List.take_set]
theorem setRow_list : ∀ (vs : List Value) (cs : Array Value) (o : Nat), (setRow cs o vs).toList = lset cs.toList o vs
  | [], _, _ => rfl
  | v :: vs, cs, o => by simp only [setRow, lset]; rw [setRow_list vs]; simp
section
variable {P : Program} {E : Env} {n : Nat} {D : List Deferred} {ts : List (Nat × Value)} {l : List HP} {ops : Array Oper} {Q : Exit → Act → World → Prop} {ty : TypeId} {pos : String} {af : Array Edge} {gd : Option (Nat × Bool)}
theorem o_storeRow {t e : TypeId} {x y : Operand} {g o m c size : Nat} {v : Value} {xs : List Value} {r : List HP} {K : Act → World → Prop} (s : Sel (row e size (.slice (some ⟨g, 0, none⟩) m c) m xs) l r) (hz : sizeIs P t 1) (hx : ev ts x = some (.pointer (some ⟨g, o, none⟩))) (hy : ev ts y = some v) (hv : v.oneCell' = true)
    (ho : o < m * size) (h : At E n D ts (row e size (.slice (some ⟨g, 0, none⟩) m c) m (xs.set o v) :: r) K) : At E n D ts l (fun a w => (Oper.mk none (.store t x y) ty pos af gd).wp P a w K Q) := by
  refine At.openRow s (fun h _ _ => by cases h) ?_
  intro g' cap cur hg _ hm hc hs ht
  injection hg with hg _ hcap
  injection hg with hg
  injection hg with hg
  subst hg; subst hcap
  have hoc : o < cur.size := by rw [hs]; exact Nat.lt_of_lt_of_le ho (Nat.mul_le_mul_right _ hm)
  refine o_store1 rfl hz hx hy hv hoc (At.ent (Ent.closeRow hm hc (by rw [Array.size_setIfInBounds]; exact hs) ?_) h)
  rw [Array.toList_setIfInBounds, List.take_set, ht]
theorem o_storeRowN {t e : TypeId} {x y : Operand} {g o m c size k : Nat} {vs xs : List Value} {r : List HP} {K : Act → World → Prop} (s : Sel (row e size (.slice (some ⟨g, 0, none⟩) m c) m xs) l r) (hz : sizeIs P t k) (hk : vs.length = k) (hx : ev ts x = some (.pointer (some ⟨g, o, none⟩))) (hy : ev ts y = some (.agg vs.toArray)) (hv : ∀ u ∈ vs, u.oneCell' = true)
    (ho : o + k ≤ m * size) (h : At E n D ts (row e size (.slice (some ⟨g, 0, none⟩) m c) m (lset xs o vs) :: r) K) : At E n D ts l (fun a w => (Oper.mk none (.store t x y) ty pos af gd).wp P a w K Q) := by
  refine At.openRow s (fun h _ _ => by cases h) ?_
  intro g' cap cur hg _ hm hc hs ht
  injection hg with hg _ hcap
  injection hg with hg
  injection hg with hg
  subst hg; subst hcap
  have hoc : o + k ≤ cur.size := by rw [hs]; exact Nat.le_trans ho (Nat.mul_le_mul_right _ hm)
  refine o_storeN rfl hz hx hy hk hv (by omega) (At.ent (Ent.closeRow hm hc (by rw [setRow_size]; exact hs) ?_) h)
  rw [setRow_list, lset_take, ht]
end
end Go.SL
