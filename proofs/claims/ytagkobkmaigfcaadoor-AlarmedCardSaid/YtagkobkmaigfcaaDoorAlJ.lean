/- The walks of flow's reader: lists of nodes; what is deferred in Read. -/
import Derived.Test.YtagkobkmaigfcaaDoorAlI
import Derived.Laws.MakeOwn
import Derived.Test.YtagkobkmaigfcaaDoorAlH
import Derived.LaidEql
import Derived.Test.YtagkobkmaigfcaaDoorAlD
namespace Go.Proofs.YtagkobkmaigfcaaDoor
open Go Go.RowKit Go.SL
variable {G : Env → Prop}

theorem dropApp : ∀ (a : List HP) {b : List HP}, Ent (a ++ b) b
  | [], _ => Ent.refl _
  | _ :: a, _ => Ent.drop.trans (dropApp a)

theorem fill_node (nd : FK.Node) (v : Value) : Instr.fill (fun i => some (i * 7, 7)) (Array.map (fun x => (Value.agg #[.int .i64 0, .int .i64 0, .int .i64 0, .int .i64 0, .int .i64 0, .int .i64 0, .slice none 0 0]).cells[x % (Value.agg #[.int .i64 0, .int .i64 0, .int .i64 0, .int .i64 0, .int .i64 0, .int .i64 0, .slice none 0 0]).cells.size]!) (Array.range (1 * 7)))
    ((List.map (fun x => x.1) [((0 : Nat), Operand.tmp 15)]).zip [Value.agg (nodeCells nd v).toArray]) = some (nodeCells nd v).toArray := by
  have e1 : Array.range (1 * 7) = #[0, 1, 2, 3, 4, 5, 6] := rfl
  rw [e1]
  simp [Instr.fill, nodeCells, Value.cells]

theorem aftsAt_snoc {vs : List Value} {ns : List FK.Node} {v : Value} {nd : FK.Node} (h : vs.length = ns.length) : aftsAt (vs ++ [v]) (ns ++ [nd]) = aftsAt vs ns ++ [intsAt v nd.after] := by
  unfold aftsAt
  rw [List.zip_append h]
  simp

theorem nodes_snoc {v' : Value} {vs : List Value} {ns : List FK.Node} {u : Value} {nd : FK.Node} {fr : List HP} {x y z : HP} (h : vs.length = ns.length) :
    Ent (row 32 7 v' (ns.length + 1) (nodesV ns vs ++ nodeCells nd u) :: x :: intsAt u nd.after :: y :: z :: (aftsAt vs ns ++ fr)) (y :: z :: row 32 7 v' (ns ++ [nd]).length (nodesV (ns ++ [nd]) (vs ++ [u])) :: (aftsAt (vs ++ [u]) (ns ++ [nd]) ++ fr)) := by
  rw [aftsAt_snoc h, nodesV_snoc ns vs nd u h, show (ns ++ [nd]).length = ns.length + 1 by simp]
  refine (Ent.cons Ent.drop).trans (Ent.perm ?_)
  have h1 : (([row 32 7 v' (ns.length + 1) (nodesV ns vs ++ nodeCells nd u), intsAt u nd.after] ++ [y, z]) ++ (aftsAt vs ns ++ fr)).Perm (([y, z] ++ [row 32 7 v' (ns.length + 1) (nodesV ns vs ++ nodeCells nd u), intsAt u nd.after]) ++ (aftsAt vs ns ++ fr)) := List.perm_append_comm.append_right _
  refine h1.trans (List.Perm.cons _ (List.Perm.cons _ (List.Perm.cons _ ?_)))
  have h2 : (intsAt u nd.after :: (aftsAt vs ns ++ fr)).Perm (aftsAt vs ns ++ intsAt u nd.after :: fr) := List.perm_middle.symm
  simpa using h2

theorem nodes_close {v : Value} {vs : List Value} {ns : List FK.Node} {fr : List HP} {y z : HP} (h : vs.length = ns.length) :
    Ent (y :: z :: row 32 7 v ns.length (nodesV ns vs) :: (aftsAt vs ns ++ fr)) (nodesOwn v ns :: y :: z :: fr) := by
  refine (Ent.perm ?_).trans (nodesOwn.ent h)
  have h1 : (([y, z] ++ (row 32 7 v ns.length (nodesV ns vs) :: aftsAt vs ns)) ++ fr).Perm (((row 32 7 v ns.length (nodesV ns vs) :: aftsAt vs ns) ++ [y, z]) ++ fr) := List.perm_append_comm.append_right _
  simpa using h1

set_option maxRecDepth 10000 in
theorem list_node {p : HP} {A : Option Addr} {c : Nat} {bs : List UInt8} (hp : Reads p A bs) (hl : bs.length ≤ 1099511627776) (r q : Nat) (hq : q ≤ bs.length) :
    DoesX Tryd.prog G 85 [.pointer (some ⟨r, 0, none⟩), .func (.func 86) #[.pointer (some ⟨r, 0, none⟩)] #[]].toArray [blk r 156 #[.slice A bs.length c, .int .i64 q], p]
      (fun u m => ∃ (ns : List FK.Node) (q' : Nat), FK.rdList bs (FK.rdNode bs) q = .ok (ns, q') ∧ q' ≤ bs.length ∧ (∀ x ∈ ns, Small x) ∧ (∃ A' c', u = .slice A' ns.length c') ∧ m = [nodesOwn u ns, blk r 156 #[.slice A bs.length c, .int .i64 q'], p])
      (fun x m => ∃ e q' : Nat, FK.rdList bs (FK.rdNode bs) q = .error e ∧ x = cutAt e ∧ m = [blk r 156 #[.slice A bs.length c, .int .i64 q'], p]) := by
  refine DoesX.body Tryd.func85 rfl rfl fun E fr hE => ?_
  refine At.app2 ?_
  refine At.seq ?_
  refine At.region ?_
  refine L.as rfl rfl ?_
  refine L.nil ?_
  refine At.then ?_
  refine At.seq ?_
  refine At.region ?_
  refine L.as rfl rfl ?_
  refine L.nil ?_
  refine At.then ?_
  refine At.seq ?_
  refine At.seq ?_
  refine At.region ?_
  refine L.mv rfl rfl ?_
  refine L.op rfl (o_callX rfl rfl rfl hE (reader_number hp hl r q hq) (Ent.refl _) ?_ ?_)
  ·
    rintro c m ⟨e, q', he, rfl, rfl⟩
    refine At.app2 ?_
    refine At.thenPanic (At.thenPanic ?_)
    exact At.panicX _ ⟨e, q', rdList_err he, rfl, rfl⟩ (Ent.refl _)
  rintro v m ⟨n, q1, hn, rfl, rfl⟩
  refine At.app2 ?_
  obtain ⟨hn1, hn2, hn3⟩ := FK.rd_lt hn
  refine L.as rfl rfl ?_
  refine L.nil ?_
  refine At.then ?_
  refine At.block ?_
  refine At.loop (X := Nat × List FK.Node × List Value × Value × Nat) (fun x => [(6, .int .i64 x.1), (5, x.2.2.2.1), (0, .pointer (some ⟨r, 0, none⟩)), (1, .func (.func 86) #[.pointer (some ⟨r, 0, none⟩)] #[])]) (fun x => blk r 156 #[.slice A bs.length c, .int .i64 x.2.2.2.2] :: p :: row 32 7 x.2.2.2.1 x.2.1.length (nodesV x.2.1 x.2.2.1) :: (aftsAt x.2.2.1 x.2.1 ++ fr)) (fun x => FK.many (FK.rdNode bs) x.1 x.2.1 x.2.2.2.2 = FK.rdList bs (FK.rdNode bs) q ∧ x.2.2.2.2 ≤ bs.length ∧ (∀ y ∈ x.2.1, Small y) ∧ x.2.1.length + x.1 ≤ 2097152 ∧ x.2.2.1.length = x.2.1.length) (fun x => x.1) (n, [], [], .slice none 0 0, q1) ⟨(rdList_ok hn).symm, hn3, by simp, by simp; omega, rfl⟩ ⟨rfl, rfl, rfl, rfl, trivial⟩ (Ent.cons (Ent.cons Ent.row0)) ?_
  rintro ⟨k, ns, vs, v5, q2⟩ ⟨hm, hq2, hb, hlen, hvs⟩
  simp only at hm hq2 hb hlen hvs ⊢
  refine At.seq ?_
  refine At.seq ?_
  refine At.region ?_
  refine L.mv rfl rfl ?_
  refine L.pure rfl (ev_gtr rfl rfl rfl) ?_
  refine L.nil ?_
  refine At.then ?_
  refine At.condD rfl (fun c10 => ?_) (fun c10 => ?_)
  ·
    obtain ⟨k, rfl⟩ : ∃ j, k = j + 1 := ⟨k - 1, by omega⟩
    refine At.skip ?_
    refine At.then ?_
    refine At.seq ?_
    refine At.block ?_
    refine At.region ?_
    refine L.mv rfl rfl ?_
    refine L.mv rfl rfl ?_
    refine L.op rfl (o_callVX rfl rfl rfl rfl hE (reader_node (c := c) hp hl r q2 hq2) (Ent.refl _) ?_ ?_)
    ·
      rintro c m ⟨e, q', he, rfl, rfl⟩
      refine At.app2 ?_
      refine At.inBlockPanic (At.thenPanic (At.roundPanic (At.inBlockPanic (At.thenPanic ?_))))
      exact At.panicX [_, _] ⟨e, q', by rw [← hm, many_err he], rfl, rfl⟩ (Ent.cons (Ent.cons (Ent.drop.trans (dropApp _))))
    rintro v m ⟨nd, u6, q3, hy, hq3, hsm, rfl, rfl⟩
    refine At.app3 ?_
    refine At.formRow .head ?_
    rintro A6 c6 rfl _ _ _ _ _
    refine L.op rfl (o_slices (m := 1) (z := .agg #[.int .i64 0, .int .i64 0, .int .i64 0, .int .i64 0, .int .i64 0, .int .i64 0, .slice none 0 0]) (size := 7) (ps := [(0, .tmp 15)]) (vs := [.agg (nodeCells nd (.slice A6 nd.after.length c6)).toArray]) (cs := (nodeCells nd (.slice A6 nd.after.length c6)).toArray) rfl rfl rfl rfl (by omega) (by omega) rfl (fill_node _ _) fun b16 => ?_)
    refine L.op rfl (o_append rfl rfl infoNode rfl (by omega) rfl rfl (.tail (.tail (.tail (.tail (.head))))) (news := nodeCells nd (.slice A6 nd.after.length c6)) rfl (fun h => by cases h) (srcIs (fun j u h => by simpa using h)) (by simp [nodeCells, Value.oneCell']) (by unfold maxLen; omega) (by omega) fun v' hv' => ?_)
    refine L.as rfl rfl ?_
    refine L.nil ?_
    refine At.inBlock (At.then ?_)
    refine At.region ?_
    refine L.mv rfl rfl ?_
    refine L.pure rfl (ev_sub (r := (k : Int)) rfl rfl (by rw [w64 (by omega)]; omega)) ?_
    refine L.as rfl rfl ?_
    refine L.nil ?_
    exact At.round (k, ns ++ [nd], vs ++ [.slice A6 nd.after.length c6], v', q3) ⟨by rw [← hm, many_succ hy], hq3, fun z hz => (by rcases List.mem_append.1 hz with h | h; exact hb z h; simp at h; rw [h]; exact hsm), by simp only [List.length_append, List.length_cons, List.length_nil]; omega, by simp [hvs]⟩ (by simp only; omega) ⟨rfl, rfl, rfl, rfl, trivial⟩ (nodes_snoc hvs)
  ·
    obtain rfl : k = 0 := by omega
    refine At.formRow (.tail (.tail (.head))) ?_
    rintro A6 c6 rfl _ _ _ _ _
    refine At.exit ?_
    refine At.thenExit (At.roundExit (At.inBlockHit (At.then ?_)))
    refine At.seq ?_
    refine At.region ?_
    refine L.mv rfl rfl ?_
    refine L.as rfl rfl ?_
    refine L.nil ?_
    refine At.then ?_
    refine At.ret ?_
    exact At.endsX (.inl rfl) (At.ret1 [_, _, _] rfl rfl ⟨ns, q2, by rw [← hm, many_zero], hq2, hb, ⟨_, _, rfl⟩, rfl⟩ (nodes_close hvs))
end Go.Proofs.YtagkobkmaigfcaaDoor

/- The walks of plain.copied and plain.turn, in the small logic. -/
namespace Go.SL
open Go Go.RowKit
theorem Sel.app {p : HP} {l r : List HP} (s : Sel p l r) : ∀ a : List HP, Sel p (a ++ l) (a ++ r)
  | [] => s
  | _ :: a => .tail (Sel.app s a)
end Go.SL
namespace Go.Proofs.YtagkobkmaigfcaaDoor
open Go Go.RowKit Go.SL
variable {G : Env → Prop}

theorem srcOld {E : Env} {l r : List HP} {w0 : World} {B : Nat} {A : Option Addr} {c : Nat} {xs : List Int} (s : Sel (old E w0) l r) (h0 : E.is w0) (h : IntsAt w0 B A c xs) (hB : B ≤ w0.heap.size) : ∀ w, Holds E w l → SrcIs A (intsV xs) w :=
  oldAt s h0 fun w hb ad had j u hj => by
    have hk := h.keep (hb.to_same.mono hB)
    simp only [intsV, List.getElem?_map, Option.map_eq_some_iff] at hj
    obtain ⟨x, hx, rfl⟩ := hj
    obtain ⟨b, off, hA, _, hc⟩ := hk.cells (by have := (List.getElem?_eq_some_iff.1 hx).1; omega)
    rw [had] at hA
    injection hA with hA
    subst hA
    rw [add_plain]
    exact hc j x hx

theorem NodesAt.i64s {w : World} {B : Nat} {A : Option Addr} {c : Nat} {ns : List FK.Node} (h : NodesAt w B A c ns) : ∀ n ∈ ns, (i64 n.budget ∧ i64 n.close ∧ i64 n.beat ∧ i64 n.base ∧ i64 n.cap ∧ i64 n.jitter) ∧ ∀ x ∈ n.after, i64 x := fun n hn => by
  obtain ⟨i, hi⟩ := List.getElem?_of_mem hn
  obtain ⟨b, off, _, _, hc⟩ := h.cells (by have := (List.getElem?_eq_some_iff.1 hi).1; omega)
  have hnode := hc i n hi
  obtain ⟨_, _, _, hi6⟩ := hnode.c6
  exact ⟨hnode.rng, hi6.rng⟩

theorem copy_snoc {v' : Value} {vs : List Value} {ns : List FK.Node} {k : Nat} {u : Value} {nd : FK.Node} {a b x y z : HP} (h : vs.length = k) (hk : ns[k]? = some nd) :
    Ent (row 32 7 v' (k + 1) (nodesV (ns.take k) vs ++ nodeCells nd u) :: a :: b :: intsAt u nd.after :: x :: y :: z :: aftsAt vs (ns.take k)) (row 32 7 v' (k + 1) (nodesV (ns.take (k + 1)) (vs ++ [u])) :: x :: y :: z :: aftsAt (vs ++ [u]) (ns.take (k + 1))) := by
  have hl : vs.length = (ns.take k).length := by have := (List.getElem?_eq_some_iff.1 hk).1; simp; omega
  rw [take_more hk, aftsAt_snoc hl, nodesV_snoc _ _ _ _ hl]
  refine Ent.cons (Ent.drop.trans (Ent.drop.trans (Ent.perm ?_)))
  have h1 : ([intsAt u nd.after] ++ (x :: y :: z :: aftsAt vs (ns.take k))).Perm ((x :: y :: z :: aftsAt vs (ns.take k)) ++ [intsAt u nd.after]) := List.perm_append_comm
  simpa using h1

theorem copy_close {v : Value} {vs : List Value} {ns : List FK.Node} {z : HP} (h : vs.length = ns.length) :
    Ent (row 32 7 v ns.length (nodesV (ns.take ns.length) vs) :: z :: aftsAt vs (ns.take ns.length)) ([nodesOwn v ns] ++ [z]) := by
  rw [List.take_length]
  refine (Ent.perm ?_).trans (nodesOwn.ent (r := [z]) h)
  exact List.Perm.cons _ (List.perm_append_comm (l₁ := [z]) (l₂ := aftsAt vs ns))

set_option maxRecDepth 10000 in
theorem copied_gives (dl : Int) (A : Option Addr) (c : Nat) (ns : List FK.Node) (hfit : FlowFits ns) : Gives Tryd.prog G 27 [.agg #[.int .i64 dl, .slice A ns.length c]].toArray (fun w => NodesAt w w.heap.size A c ns)
    fun v m => ∃ A' c', v = .agg #[.int .i64 dl, .slice A' ns.length c'] ∧ m = [nodesOwn (.slice A' ns.length c') ns] := by
  refine Gives.body Tryd.func27 rfl rfl fun E w0 hE h0 hN => ?_
  refine At.seq ?_
  refine At.region ?_
  refine L.op rfl (o_box rfl rfl fun b1 => ?_)
  refine L.op rfl (o_alloc (z := .agg #[.int .i64 0, .slice none 0 0]) rfl rfl fun b2 => ?_)
  refine L.nil ?_
  refine At.then ?_
  refine At.seq ?_
  refine At.region ?_
  refine L.as rfl rfl ?_
  refine L.nil ?_
  refine At.then ?_
  refine At.seq ?_
  refine At.seq ?_
  refine At.region ?_
  refine L.fa 1 rfl rfl rfl ?_
  refine L.ld rfl rfl rfl rfl ?_
  refine L.pure rfl (ev_lenS rfl rfl) ?_
  refine L.mv rfl rfl ?_
  refine L.nil ?_
  refine At.then ?_
  refine At.block ?_
  refine At.loop (X := Nat × List Value × Value) (fun x => [(9, .int .i64 x.1), (3, x.2.2), (7, .slice A ns.length c), (8, .int .i64 ns.length), (1, .pointer (some ⟨b1, 0, none⟩)), (2, .pointer (some ⟨b2, 0, none⟩))]) (fun x => row 32 7 x.2.2 x.1 (nodesV (ns.take x.1) x.2.1) :: blk b2 24 #[.int .i64 0, .slice none 0 0] :: blk b1 24 #[.int .i64 dl, .slice A ns.length c] :: old E w0 :: aftsAt x.2.1 (ns.take x.1)) (fun x => x.1 ≤ ns.length ∧ x.2.1.length = x.1) (fun x => ns.length - x.1) (0, [], .slice none 0 0) ⟨by omega, rfl⟩ ⟨rfl, rfl, rfl, rfl, rfl, rfl, trivial⟩ Ent.row0 ?_
  rintro ⟨k, vs, v3⟩ ⟨hk, hvs⟩
  simp only at hk hvs ⊢
  refine At.seq ?_
  refine At.region ?_
  refine L.pure rfl (ev_lss rfl rfl rfl) ?_
  refine L.nil ?_
  refine At.then ?_
  refine At.seq ?_
  refine At.condD rfl (fun c10 => ?_) (fun c10 => ?_)
  ·
    have hlt : k < ns.length := by omega
    obtain ⟨b, off, rfl, hbB, hcell⟩ := hN.cells (by omega)
    obtain ⟨nd, hnd⟩ : ∃ nd, ns[k]? = some nd := ⟨ns[k], by simp [hlt]⟩
    obtain ⟨A6, c6, hrow, hints⟩ := NodeAt.row (hcell k nd hnd)
    have hf1 := hfit.1
    have hf2 := hfit.2 nd (List.mem_of_getElem? hnd)
    refine At.skip ?_
    refine At.then ?_
    refine At.seq ?_
    refine At.block ?_
    refine At.seq ?_
    refine At.region ?_
    refine L.pure rfl (ev_ixN (z := 7) rfl rfl rfl rfl (by omega)) ?_
    refine L.val rfl (ev_loadN (vs := nodeVals nd A6 c6) rfl rfl rfl rfl) (rowOld (.tail (.tail (.tail (.head)))) h0 hrow) ?_
    refine L.op rfl (o_alloc (z := .agg #[.int .i64 0, .int .i64 0, .int .i64 0, .int .i64 0, .int .i64 0, .int .i64 0, .slice none 0 0]) rfl rfl fun b5 => ?_)
    refine L.op rfl (o_storeN rfl (m := 7) (vs := nodeVals nd A6 c6) rfl rfl rfl rfl (by simp [nodeVals, Value.oneCell']) (by simp [nodeVals, Value.cells]) ?_)
    simp only [Value.cells, setRow_all]
    refine L.nil ?_
    refine At.then ?_
    refine At.seq ?_
    refine At.region ?_
    refine L.fa 6 rfl rfl rfl ?_
    refine L.ld rfl rfl rfl rfl ?_
    refine At.ent (Ent.row0 (e := 3) (size := 1)) ?_
    refine L.op rfl (o_append (k := 0) (xs := []) rfl rfl infoInt rfl (by omega) rfl rfl .head (news := intsV nd.after) (by simp [intsV]) (fun h => by have := hints.cells; subst h; rcases Nat.eq_zero_or_pos nd.after.length with h | h; exact h; obtain ⟨_, _, h, _⟩ := this h; cases h) (srcOld (.tail (.tail (.tail (.tail (.tail (.head)))))) h0 hints (Nat.le_refl _)) (by simp [intsV, Value.oneCell']) (by unfold maxLen; omega) (by omega) fun v15 hv15 => ?_)
    simp only [Nat.zero_add, List.nil_append]
    refine At.formRow .head ?_
    rintro A7 c7 rfl _ _ _ _ _
    refine L.fa 6 rfl rfl rfl ?_
    refine L.st rfl rfl rfl rfl (by simp [nodeVals]) ?_
    refine L.nil ?_
    refine At.then ?_
    refine At.region ?_
    refine L.mv rfl rfl ?_
    refine L.val rfl (ev_loadN (vs := nodeCells nd (.slice A7 nd.after.length c7)) rfl rfl rfl rfl) (rowAll rfl) ?_
    refine L.op rfl (o_slices (m := 1) (z := .agg #[.int .i64 0, .int .i64 0, .int .i64 0, .int .i64 0, .int .i64 0, .int .i64 0, .slice none 0 0]) (size := 7) (ps := [(0, .tmp 18)]) (vs := [.agg (nodeCells nd (.slice A7 nd.after.length c7)).toArray]) (cs := (nodeCells nd (.slice A7 nd.after.length c7)).toArray) rfl rfl rfl rfl (by omega) (by omega) rfl (fill_node _ _) fun b19 => ?_)
    refine L.op rfl (o_append rfl rfl infoNode rfl (by omega) rfl rfl (.tail (.tail (.tail (.head)))) (news := nodeCells nd (.slice A7 nd.after.length c7)) rfl (fun h => by cases h) (srcIs (fun j u h => by simpa using h)) (by simp [nodeCells, Value.oneCell']) (by unfold maxLen; omega) (by omega) fun v4 hv4 => ?_)
    refine L.as rfl rfl ?_
    refine L.nil ?_
    refine At.inBlock (At.then ?_)
    refine At.region ?_
    refine L.pure rfl (ev_add rfl rfl (w64 (by omega))) ?_
    refine L.mv rfl rfl ?_
    refine L.nil ?_
    exact At.round (k + 1, vs ++ [.slice A7 nd.after.length c7], v4) ⟨by simp only; omega, by simp [hvs]⟩ (by simp only; omega) ⟨rfl, rfl, rfl, rfl, rfl, rfl, trivial⟩ (copy_snoc hvs hnd)
  ·
    obtain rfl : k = ns.length := by omega
    refine At.formRow .head ?_
    rintro A7 c7 rfl _ _ _ _ _
    refine At.exit ?_
    refine At.thenExit (At.roundExit (At.inBlockHit (At.then ?_)))
    refine At.seq ?_
    refine At.region ?_
    refine L.mv rfl rfl ?_
    refine L.fa 1 rfl rfl rfl ?_
    refine L.st rfl rfl rfl rfl (by first | decide | simp | (simp; omega)) ?_
    refine L.nil ?_
    refine At.then ?_
    refine At.seq ?_
    refine At.region ?_
    refine L.val rfl (ev_loadN (vs := [.int .i64 dl, .slice A7 ns.length c7]) rfl rfl rfl rfl) (rowAll rfl) ?_
    refine L.op rfl (o_storeN rfl (m := 2) (vs := [.int .i64 dl, .slice A7 ns.length c7]) rfl rfl rfl rfl (by simp [Value.oneCell']) (by simp) ?_)
    refine L.nil ?_
    refine At.then ?_
    refine At.ret ?_
    exact At.res1 [_] rfl (Res.cellN (vs := [.int .i64 dl, .slice A7 ns.length c7]) rfl rfl rfl rfl (rowAll rfl)) ⟨A7, c7, rfl, rfl⟩ (Ent.drop.trans (Ent.drop.trans (copy_close hvs)))
end Go.Proofs.YtagkobkmaigfcaaDoor

/- New slices of so many elements; facts in the midst of a list. -/
namespace Go.SL
open Go Go.RowKit
theorem Sel.left {p : HP} {l r : List HP} (s : Sel p l r) (m : List HP) : Sel p (l ++ m) (r ++ m) := by
  induction s with
  | head => exact .head
  | tail _ ih => exact .tail ih
theorem Sel.of_mem {p : HP} : ∀ {l : List HP}, p ∈ l → ∃ r, Sel p l r
  | [], h => by cases h
  | q :: l, h => by
    rcases List.mem_cons.1 h with rfl | h
    · exact ⟨l, .head⟩
    · obtain ⟨r, s⟩ := Sel.of_mem h
      exact ⟨q :: r, .tail s⟩

section
variable {P : Program} {E : Env} {n : Nat} {D : List Deferred} {ts : List (Nat × Value)} {l : List HP} {ops : Array Oper} {Q : Exit → Act → World → Prop} {i : Nat} {ty : TypeId} {pos : String} {af : Array Edge} {g : Option (Nat × Bool)}

theorem made_one (z : Value) (m : Nat) (hz : z.cells = #[z]) : madeCells z.cells (m * 1) = (List.replicate m z).toArray := by
  rw [hz]
  unfold madeCells
  apply Array.ext
  · simp
  · intro j h1 h2
    simp [Nat.mod_one]

/-- a new slice of so many elements of one cell -/
theorem o_make {t e : TypeId} {x : Operand} {z : Value} {m bytes : Nat} {K : Act → World → Prop} (hi : Nat.blt i n = true) (ht : P.underlying t = some (.slice e)) (hel : elemIs P e z 1 bytes) (hz : z.cells = #[z]) (hx : ev ts x = some (.int .i64 (m : Int))) (hb : bytes * m ≤ 281474976710656) (hm : m ≤ 9223372036854775807)
    (h : ∀ b, At E n D ((i, .slice (some ⟨b, 0, none⟩) m m) :: ts) (blk b e (List.replicate m z).toArray :: l) K) : At E n D ts l (fun a w => (Oper.mk (some i) (.makeSlice t x x) ty pos af g).wp P a w K Q) := fun a w f hw => by
  obtain ⟨ti, hti, e0, e1, e2⟩ := info_parts hel
  have hb' : (ti.bytes : Int) * (m : Int) ≤ 281474976710656 := by
    rw [e2]
    have : ((bytes * m : Nat) : Int) ≤ 281474976710656 := by omega
    rwa [Int.natCast_mul] at this
  have hr0 := run_make (P := P) w t e ti z ht hti e0 .i64 .i64 m m (by omega) (by omega) hb' (by omega)
  rw [Int.toNat_natCast, e1, made_one z m hz] at hr0
  have hr : (execOp a.eval (Oper.mk (some i) (.makeSlice t x x) ty pos af g)).run P w = .ok (.value (.slice (some ⟨w.heap.size, 0, none⟩) m m)) (w.alloc (.cells (List.replicate m z).toArray e)) := by
    simp only [execOp, f.eval hx, Sem.run_bind, hr0, Result.andThen_ok, Sem.run_pure]
  show (Oper.mk (some i) (.makeSlice t x x) ty pos af g).wp P a w K Q
  unfold Oper.wp
  rw [hr]
  exact h _ _ _ (f.put i (Nat.le_of_ble_eq_true hi) _) (hw.alloc _)
end
end Go.SL
namespace Go.Proofs.YtagkobkmaigfcaaDoor
open Go Go.RowKit Go.SL

theorem afts_mem {vs : List Value} {ns : List FK.Node} {i : Nat} {u : Value} {nd : FK.Node} (hu : vs[i]? = some u) (hn : ns[i]? = some nd) : intsAt u nd.after ∈ aftsAt vs ns :=
  List.mem_map.2 ⟨(u, nd), List.mem_of_getElem? (i := i) (by simp [List.getElem?_zip_eq_some, hn, hu]), rfl⟩

theorem Ent.set : ∀ (l : List HP) (i : Nat) (x : HP), Ent (x :: l) (l.set i x)
  | [], _, _ => Ent.drop
  | _ :: _, 0, _ => Ent.cons Ent.drop
  | _ :: l, i + 1, x => (Ent.perm (List.Perm.swap _ _ _)).trans (Ent.cons (Ent.set l i x))

theorem aftsAt_set : ∀ (vs : List Value) (ns : List FK.Node) (i : Nat) (u : Value) (nd : FK.Node), i < vs.length → aftsAt (vs.set i u) (ns.set i nd) = (aftsAt vs ns).set i (intsAt u nd.after)
  | [], _, _, _, _, h => by simp at h
  | _ :: _, [], i, _, _, _ => by cases i <;> rfl
  | _ :: _, _ :: _, 0, _, _, _ => rfl
  | v :: vs, m :: ns, i + 1, u, nd, h => by
    have := aftsAt_set vs ns i u nd (by simpa using h)
    simp only [aftsAt, List.set_cons_succ, List.zip_cons_cons, List.map_cons] at this ⊢
    rw [this]

theorem nodesV_set : ∀ (ns : List FK.Node) (vs : List Value) (i : Nat) (nd : FK.Node) (u : Value) (l : List Int), vs.length = ns.length → ns[i]? = some nd → (nodesV ns vs).set (i * 7 + 6) u = nodesV (ns.set i { nd with after := l }) (vs.set i u)
  | [], _, _, _, _, _, _, h => by simp at h
  | _ :: _, [], _, _, _, _, h, _ => by simp at h
  | m :: ns, v :: vs, 0, nd, u, l, _, h => by
    simp at h; subst h
    rfl
  | m :: ns, v :: vs, i + 1, nd, u, l, h, hn => by
    have := nodesV_set ns vs i nd u l (by simpa using h) (by simpa using hn)
    simp only [nodesV, List.set_cons_succ]
    rw [← this, List.set_append_right _ _ (by simp [nodeCells]; omega)]
    congr 2
    simp [nodeCells]
    omega
end Go.Proofs.YtagkobkmaigfcaaDoor

/- Slices of timers: Insert behind all, BinarySearchFunc ahead of nothing; the wheel's small closures. -/
namespace Go.SL
open Go Go.RowKit
section
variable {P : Program} {ts : List (Nat × Value)}
/-- a block of cells -/
def IsBlk (b : Nat) (w : World) : Prop := ∃ cs t, w.heap[b]? = some (.cells cs t (0, 0))
/-- pointers to the beginnings of two blocks -/
theorem ev_eqlP {t t' e : TypeId} {x y : Operand} {b c m : Nat} {r : Bool} (ht : P.underlying t = some (.pointer e)) (hz : sizeIs P e (m + 1)) (hx : ev ts x = some (.pointer (some ⟨b, 0, none⟩))) (hy : ev ts y = some (.pointer (some ⟨c, 0, none⟩))) (hr : decide (b = c) = r) : Ev P ts (.binOp .eql t x y t') (.bool r) (fun w => IsBlk b w ∧ IsBlk c w) := by
  intro ac w _ _ _ _ _ kn ⟨⟨cs, u, hb⟩, cs', u', hc⟩
  subst hr
  refine exec_bin (kn.eval hx) (kn.eval hy) (by simp [eqGuard]) (bin_eql rfl fun d => ?_)
  by_cases h : b = c
  · subst h
    simp [Op.equalIn, run_underlying ht, run_sizeIs hz, run_sameAddr_same]
  · have := run_sameAddr_other (P := P) w (a := ⟨b, 0, none⟩) (b := ⟨c, 0, none⟩) (by simp) hb hc
    simp [Op.equalIn, run_underlying ht, run_sizeIs hz, this, h]
end
end Go.SL
namespace Go.Proofs.YtagkobkmaigfcaaDoor
open Go Go.RowKit Go.SL
variable {G : Env → Prop}

abbrev ptr (b : Nat) : Value := .pointer (some ⟨b, 0, none⟩)
/-- a slot: pointers to timers, in memory that is owned -/
abbrev ptrsAt (v : Value) (bs : List Nat) : HP := row 124 1 v bs.length (bs.map ptr)
theorem infoPtr : (Tryd.prog.info? 124).map (fun i => (i.zero, i.size, i.bytes)) = some (some (.pointer none), 1, 8) := by kernel_rfl

/-- p holds timers with these numbers, all of them below n -/
structure Below' (p : HP) (bs : List Nat) (sq : Nat → Nat) (n : Nat) : Prop where
  lt : ∀ b ∈ bs, sq b < n
  cell : ∀ w F, p.sat w F → ∀ b ∈ bs, w.cell? ⟨b, 2, none⟩ = some (.int .u64 (sq b))

theorem Below'.at {E : Env} {p : HP} {bs : List Nat} {sq : Nat → Nat} {n : Nat} {l r : List HP} {b : Nat} (h : Below' p bs sq n) (s : Sel p l r) (hb : b ∈ bs) : ∀ w, Holds E w l → CellIs ⟨b, 2, none⟩ (.int .u64 (sq b)) w := fun w hw => by
  obtain ⟨F1, _, _, _, _, hp, _⟩ := (hw.sel s).star
  exact h.cell w F1 hp b hb

theorem sub_neg {a n : Nat} (h : a < n) (hn : n < 9223372036854775808) : IntKind.i64.wrap (IntKind.u64.wrap ((a : Int) - (n : Int))) = (a : Int) - n := by
  rw [mu64]
  have : ((a : Int) - n) % 18446744073709551616 = (a : Int) - n + 18446744073709551616 := by omega
  rw [this, IntKind.wrap_i64]
  omega

set_option maxRecDepth 10000 in
theorem put1 {p : HP} {bs : List Nat} {sq : Nat → Nat} {n : Nat} (hp : Below' p bs sq n) (hn : n < 9223372036854775808) (b : Nat) (hb : b ∈ bs) : Does Tryd.prog G 92 [ptr b, .int .u64 n].toArray [p] fun v m => v = .int .i64 ((sq b : Int) - n) ∧ m = [p] := by
  have hlt := hp.lt b hb
  refine Does.body Tryd.func92 rfl rfl fun E fr hE => ?_
  refine At.app1 ?_
  refine At.seq ?_
  refine At.region ?_
  refine L.as rfl rfl ?_
  refine L.nil ?_
  refine At.then ?_
  refine At.seq ?_
  refine At.region ?_
  refine L.mv rfl rfl ?_
  refine L.nc rfl rfl ?_
  refine L.fa 2 rfl rfl rfl ?_
  refine L.val rfl (ev_load1 rfl rfl) (hp.at .head hb) ?_
  refine L.mv rfl rfl ?_
  refine L.pure rfl (ev_sub rfl rfl rfl) ?_
  refine L.pure rfl (ev_conv rfl rfl rfl (sub_neg hlt hn)) ?_
  refine L.as rfl rfl ?_
  refine L.nil ?_
  refine At.then ?_
  refine At.ret ?_
  exact At.ret1 [_] rfl rfl ⟨rfl, rfl⟩ (Ent.refl _)

theorem half (i n : Nat) (h : i < n) (hn : n ≤ 100000) : ((IntKind.u64.wrap ((i + n : Nat) : Int))).fdiv (2 ^ min ((1 : Int)).toNat IntKind.u64.bits) = (((i + n) / 2 : Nat) : Int) := by
  rw [mu64]
  have h1 : ((i + n : Nat) : Int) % 18446744073709551616 = ((i + n : Nat) : Int) := by omega
  have h2 : (2 : Int) ^ min ((1 : Int)).toNat IntKind.u64.bits = 2 := rfl
  rw [h1, h2, Int.fdiv_eq_ediv_of_nonneg _ (by omega)]
  omega

set_option maxRecDepth 10000 in
theorem search_end {p : HP} {bs : List Nat} {sq : Nat → Nat} {n : Nat} {A : Option Addr} {c : Nat} (hp : Below' p bs sq n) (hn : n < 9223372036854775808) (hl : bs.length ≤ 100000) :
    Does Tryd.prog G 91 [.slice A bs.length c, .int .u64 n, .func (.func 92) #[] #[]].toArray [ptrsAt (.slice A bs.length c) bs, p]
      fun v m => v = .tuple #[.int .i64 bs.length, .bool false] ∧ m = [ptrsAt (.slice A bs.length c) bs, p] := by
  refine Does.body Tryd.func91 rfl rfl fun E fr hE => ?_
  refine At.app2 ?_
  refine At.formRow .head ?_
  intro A' c' hA hnil hform hc1 hc2 _
  injection hA with hA _ hcc
  subst hA; subst hcc
  have hc3 : c ≤ 9223372036854775807 := by unfold maxLen at hc2; omega
  refine At.seq ?_
  refine At.region ?_
  refine L.as rfl rfl ?_
  refine L.as rfl rfl ?_
  refine L.nil ?_
  refine At.then ?_
  refine At.seq ?_
  refine At.region ?_
  refine L.mv rfl rfl ?_
  refine L.pure rfl (ev_lenS rfl rfl) ?_
  refine L.as rfl rfl ?_
  refine L.nil ?_
  refine At.then ?_
  refine At.seq ?_
  refine At.region ?_
  refine L.mv rfl rfl ?_
  refine L.as rfl rfl ?_
  refine L.as rfl rfl ?_
  refine L.nil ?_
  refine At.then ?_
  refine At.seq ?_
  refine At.block ?_
  refine At.loop (X := Nat) (fun i => [(9, .int .i64 i), (10, .int .i64 bs.length), (8, .int .i64 bs.length), (0, .slice A bs.length c), (1, .int .u64 n), (2, .func (.func 92) #[] #[])]) (fun _ => ptrsAt (.slice A bs.length c) bs :: p :: fr) (fun i => i ≤ bs.length) (fun i => bs.length - i) 0 (by omega) ⟨rfl, rfl, rfl, rfl, rfl, rfl, trivial⟩ (Ent.refl _) ?_
  intro i hi
  refine At.seq ?_
  refine At.seq ?_
  refine At.region ?_
  refine L.mv rfl rfl ?_
  refine L.mv rfl rfl ?_
  refine L.pure rfl (ev_lss rfl rfl rfl) ?_
  refine L.nil ?_
  refine At.then ?_
  refine At.condD rfl (fun c17 => ?_) (fun c17 => ?_)
  ·
    have hlt : i < bs.length := by omega
    obtain ⟨g, rfl⟩ : ∃ g, A = some ⟨g, 0, none⟩ := by
      cases A with
      | none => have := (hnil rfl).1; omega
      | some ad => obtain ⟨g, rfl⟩ := hform ad rfl; exact ⟨g, rfl⟩
    obtain ⟨h, hh⟩ : ∃ h, h = (i + bs.length) / 2 := ⟨_, rfl⟩
    have hhl : h < bs.length := by omega
    obtain ⟨b, hb⟩ : ∃ b, bs[h]? = some b := ⟨bs[h], by simp [hhl]⟩
    have hbm := List.mem_of_getElem? hb
    have hblt := hp.lt b hbm
    refine At.skip ?_
    refine At.then ?_
    refine At.block ?_
    refine At.seq ?_
    refine At.region ?_
    refine L.mv rfl rfl ?_
    refine L.mv rfl rfl ?_
    refine L.pure rfl (ev_add (r := ((i + bs.length : Nat) : Int)) rfl rfl (by rw [w64 (by omega)]; omega)) ?_
    refine L.pure rfl (ev_conv rfl rfl rfl rfl) ?_
    refine L.pure rfl (ev_shr (r := (h : Int)) rfl rfl (by omega) (by rw [hh]; exact half i bs.length hlt hl)) ?_
    refine L.pure rfl (ev_conv rfl rfl rfl (w64 (by omega))) ?_
    refine L.as rfl rfl ?_
    refine L.nil ?_
    refine At.then ?_
    refine At.seq ?_
    refine At.region ?_
    refine L.mv rfl rfl ?_
    refine L.mv rfl rfl ?_
    refine L.mv rfl rfl ?_
    refine L.pure rfl (ev_ixN (z := 1) rfl rfl rfl rfl hhl) ?_
    refine L.val rfl (ev_load1 (v := ptr b) rfl rfl) (cellIn .head (by simp [hb])) ?_
    refine L.mv rfl rfl ?_
    refine L.op rfl (o_callV rfl rfl rfl rfl hE (put1 hp hn b hbm) (Ent.sel (.tail (.head))) ?_)
    rintro v m ⟨rfl, rfl⟩
    refine At.app1 ?_
    refine L.pure rfl (ev_lss (r := true) rfl rfl (by rw [decide_eq_true_eq]; omega)) ?_
    refine L.nil ?_
    refine At.then ?_
    refine At.condT rfl ?_
    refine At.region ?_
    refine L.mv rfl rfl ?_
    refine L.pure rfl (ev_add rfl rfl (w64 (by omega))) ?_
    refine L.as rfl rfl ?_
    refine L.nil ?_
    refine At.inBlock ?_
    exact At.round (h + 1) (by omega) (by omega) ⟨rfl, rfl, rfl, rfl, rfl, rfl, trivial⟩ (Ent.perm (List.Perm.swap _ _ _))
  ·
    obtain rfl : i = bs.length := by omega
    refine At.exit ?_
    refine At.thenExit (At.roundExit (At.inBlockHit (At.then ?_)))
    refine At.seq ?_
    refine At.region ?_
    refine L.mv rfl rfl ?_
    refine L.mv rfl rfl ?_
    refine L.mv rfl rfl ?_
    refine L.pure rfl (ev_lss (r := false) rfl rfl (by simp)) ?_
    refine L.mv rfl rfl ?_
    refine L.off rfl rfl rfl rfl rfl rfl ?_
    refine L.off rfl rfl rfl rfl rfl rfl ?_
    refine L.off rfl rfl rfl rfl rfl rfl ?_
    refine L.off rfl rfl rfl rfl rfl rfl ?_
    refine L.off rfl rfl rfl rfl rfl rfl ?_
    refine L.off rfl rfl rfl rfl rfl rfl ?_
    refine L.off rfl rfl rfl rfl rfl rfl ?_
    refine L.off rfl rfl rfl rfl rfl rfl ?_
    refine L.pure rfl (ev_pick rfl rfl rfl) ?_
    refine L.as rfl rfl ?_
    refine L.as rfl rfl ?_
    refine L.nil ?_
    refine At.then ?_
    refine At.ret ?_
    exact At.ret2 [_, _] rfl rfl rfl ⟨rfl, rfl⟩ (Ent.refl _)

set_option maxRecDepth 10000 in
theorem insert_end {bs : List Nat} {A : Option Addr} {c g t : Nat} (hl : bs.length ≤ 100000) :
    Does Tryd.prog G 93 [.slice A bs.length c, .int .i64 bs.length, .slice (some ⟨g, 0, none⟩) 1 1].toArray [ptrsAt (.slice A bs.length c) bs, blk g 124 #[ptr t]]
      fun v m => (∃ A' c', v = .slice A' (bs ++ [t]).length c') ∧ m = [ptrsAt v (bs ++ [t])] := by
  refine Does.body Tryd.func93 rfl rfl fun E fr hE => ?_
  refine At.app2 ?_
  refine At.formRow .head ?_
  intro A' c' hA hnil hform hc1 hc2 _
  injection hA with hA _ hcc
  subst hA; subst hcc
  refine At.seq ?_
  refine At.region ?_
  refine L.as rfl rfl ?_
  refine L.nil ?_
  refine At.then ?_
  refine At.seq ?_
  refine At.region ?_
  refine L.mv rfl rfl ?_
  refine L.mv rfl rfl ?_
  refine L.pure rfl (ev_slice (z := 1) (a := bs.length) (b := bs.length) rfl rfl rfl ⟨_, rfl⟩ rfl (Nat.le_refl _) hc1) ?_
  refine L.nil ?_
  refine At.then ?_
  refine At.seq ?_
  refine At.region ?_
  refine L.mv rfl rfl ?_
  refine L.pure rfl (ev_lenS rfl rfl) ?_
  refine L.as rfl rfl ?_
  refine L.nil ?_
  refine At.then ?_
  refine At.seq ?_
  refine At.seq ?_
  refine At.region ?_
  refine L.mv rfl rfl ?_
  refine L.pure rfl (ev_eql (r := false) rfl rfl rfl) ?_
  refine L.nil ?_
  refine At.then ?_
  refine At.condF rfl ?_
  refine At.skip ?_
  refine At.then ?_
  refine At.seq ?_
  refine At.region ?_
  refine L.mv rfl rfl ?_
  refine L.pure rfl (ev_lenS rfl rfl) ?_
  refine L.as rfl rfl ?_
  refine L.nil ?_
  refine At.then ?_
  refine At.seq ?_
  refine At.seq ?_
  refine At.region ?_
  refine L.mv rfl rfl ?_
  refine L.mv rfl rfl ?_
  refine L.pure rfl (ev_eql (r := true) rfl rfl (by simp)) ?_
  refine L.nil ?_
  refine At.then ?_
  refine At.condT rfl ?_
  refine At.seq ?_
  refine At.region ?_
  refine L.mv rfl rfl ?_
  refine L.mv rfl rfl ?_
  refine L.op rfl (o_append rfl rfl infoPtr rfl (by omega) rfl rfl .head (news := [ptr t]) rfl (fun h => by cases h) (srcIs (fun j u h => by simpa using h)) (by simp [Value.oneCell']) (by unfold maxLen; omega) (by omega) fun v' hv' => ?_)
  refine At.formRow .head ?_
  rintro A7 c7 rfl _ _ _ _ _
  refine L.as rfl rfl ?_
  refine L.nil ?_
  refine At.then ?_
  refine At.ret ?_
  refine At.thenRet ?_
  exact At.ret1 [_] rfl rfl ⟨⟨A7, c7, by simp⟩, rfl⟩ (by simp only [ptrsAt, List.length_append, List.map_append, List.length_cons, List.length_nil, List.map_cons, List.map_nil]; exact Ent.cons Ent.drop)
  -- unused hints: ['plain']

/-- p holds blocks at all of these -/
def Blks (p : HP) (bs : List Nat) : Prop := ∀ w F, p.sat w F → ∀ b ∈ bs, IsBlk b w
theorem Blks.at {E : Env} {p : HP} {bs : List Nat} {l r : List HP} {b : Nat} (h : Blks p bs) (s : Sel p l r) (hb : b ∈ bs) : ∀ w, Holds E w l → IsBlk b w := fun w hw => by
  obtain ⟨F1, _, _, _, _, hp, _⟩ := (hw.sel s).star
  exact h w F1 hp b hb

set_option maxRecDepth 10000 in
theorem drop1 {p : HP} {bs : List Nat} (hp : Blks p bs) (o t cl : Nat) (ho : o ∈ bs) (ht : t ∈ bs) : Does Tryd.prog G 88 [ptr o, ptr cl].toArray [blk cl 124 #[ptr t], p] fun v m => v = .bool (decide (o = t)) ∧ m = [blk cl 124 #[ptr t], p] := by
  refine Does.body Tryd.func88 rfl rfl fun E fr hE => ?_
  refine At.app2 ?_
  refine At.seq ?_
  refine At.region ?_
  refine L.as rfl rfl ?_
  refine L.nil ?_
  refine At.then ?_
  refine At.seq ?_
  refine At.region ?_
  refine L.mv rfl rfl ?_
  refine L.ld rfl rfl rfl rfl ?_
  refine L.val rfl (ev_eqlP (m := 4) rfl rfl rfl rfl rfl) (fun w hw => ⟨hp.at (.tail (.head)) ho w hw, hp.at (.tail (.head)) ht w hw⟩) ?_
  refine L.as rfl rfl ?_
  refine L.nil ?_
  refine At.then ?_
  refine At.ret ?_
  exact At.ret1 [_, _] rfl rfl ⟨rfl, rfl⟩ (Ent.refl _)

set_option maxRecDepth 10000 in
theorem index_of {p : HP} {bs : List Nat} (hp : Blks p bs) {A : Option Addr} {c i t cl : Nat} (hi : bs[i]? = some t) (hne : ∀ j, j < i → bs[j]? ≠ some t) (hl : bs.length ≤ 100000) :
    Does Tryd.prog G 98 [.slice A bs.length c, .func (.func 88) #[] #[ptr cl]].toArray [ptrsAt (.slice A bs.length c) bs, blk cl 124 #[ptr t], p]
      fun v m => v = .int .i64 i ∧ m = [ptrsAt (.slice A bs.length c) bs, blk cl 124 #[ptr t], p] := by
  have hil := (List.getElem?_eq_some_iff.1 hi).1
  refine Does.body Tryd.func98 rfl rfl fun E fr hE => ?_
  refine At.app3 ?_
  refine At.formRow .head ?_
  intro A' c' hA hnil hform hc1 hc2 _
  injection hA with hA _ hcc
  subst hA; subst hcc
  obtain ⟨g, rfl⟩ : ∃ g, A = some ⟨g, 0, none⟩ := by
    cases A with
    | none => have := (hnil rfl).1; omega
    | some ad => obtain ⟨g, rfl⟩ := hform ad rfl; exact ⟨g, rfl⟩
  refine At.seq ?_
  refine At.region ?_
  refine L.as rfl rfl ?_
  refine L.nil ?_
  refine At.then ?_
  refine At.seq ?_
  refine At.seq ?_
  refine At.region ?_
  refine L.mv rfl rfl ?_
  refine L.pure rfl (ev_lenS rfl rfl) ?_
  refine L.mv rfl rfl ?_
  refine L.nil ?_
  refine At.then ?_
  refine At.block ?_
  refine At.loop (X := Nat) (fun k => [(8, .int .i64 k), (7, .int .i64 bs.length), (0, .slice (some ⟨g, 0, none⟩) bs.length c), (1, .func (.func 88) #[] #[ptr cl])]) (fun _ => ptrsAt (.slice (some ⟨g, 0, none⟩) bs.length c) bs :: blk cl 124 #[ptr t] :: p :: fr) (fun k => k ≤ i) (fun k => i - k) 0 (by omega) ⟨rfl, rfl, rfl, rfl, trivial⟩ (Ent.refl _) ?_
  intro k hk
  refine At.seq ?_
  refine At.region ?_
  refine L.pure rfl (ev_lss rfl rfl rfl) ?_
  refine L.nil ?_
  refine At.then ?_
  refine At.seq ?_
  refine At.condD rfl (fun c9 => ?_) (fun c9 => ?_)
  ·
    have hlt : k < bs.length := by omega
    obtain ⟨o, ho⟩ : ∃ o, bs[k]? = some o := ⟨bs[k], by simp [hlt]⟩
    have hom := List.mem_of_getElem? ho
    have htm := List.mem_of_getElem? hi
    refine At.skip ?_
    refine At.then ?_
    refine At.seq ?_
    refine At.block ?_
    refine At.seq ?_
    refine At.region ?_
    refine L.mv rfl rfl ?_
    refine L.as rfl rfl ?_
    refine L.nil ?_
    refine At.then ?_
    refine At.seq ?_
    refine At.region ?_
    refine L.mv rfl rfl ?_
    refine L.mv rfl rfl ?_
    refine L.mv rfl rfl ?_
    refine L.pure rfl (ev_ixN (z := 1) rfl rfl rfl rfl hlt) ?_
    refine L.val rfl (ev_load1 (v := ptr o) rfl rfl) (cellIn .head (by simp [ho])) ?_
    refine L.op rfl (o_callV rfl rfl rfl rfl hE (drop1 hp o t cl hom htm) (Ent.sel2 (.tail (.head)) (.tail (.head))) ?_)
    rintro v m ⟨rfl, rfl⟩
    refine At.app2 ?_
    refine L.nil ?_
    refine At.then ?_
    refine At.condD rfl (fun c16 => ?_) (fun c16 => ?_)
    ·
      have hki : k = i := Nat.le_antisymm hk (Nat.le_of_not_lt fun h => hne k h (by rw [ho, c16]))
      subst hki
      refine At.seq ?_
      refine At.region ?_
      refine L.mv rfl rfl ?_
      refine L.as rfl rfl ?_
      refine L.nil ?_
      refine At.then ?_
      refine At.ret ?_
      refine At.inBlockRet (At.thenRet (At.roundRet (At.inBlockRet (At.thenRet ?_))))
      exact At.ret1 [_, _, _] rfl rfl ⟨rfl, rfl⟩ (Ent.sel3 (.tail (.tail (.head))) .head .head)
    ·
      have hki : k ≠ i := fun h => c16 (by subst h; rw [hi] at ho; injection ho with ho; exact ho.symm)
      refine At.skip ?_
      refine At.inBlock (At.then ?_)
      refine At.region ?_
      refine L.pure rfl (ev_add rfl rfl (w64 (by omega))) ?_
      refine L.mv rfl rfl ?_
      refine L.nil ?_
      exact At.round (k + 1) (by omega) (by omega) ⟨rfl, rfl, rfl, rfl, trivial⟩ (Ent.sel3 (.tail (.tail (.head))) .head .head)
  ·
    refine At.exit ?_
    refine At.thenExit (At.roundExit (At.inBlockHit (At.then ?_)))
    refine At.seq ?_
    refine At.region ?_
    refine L.as rfl rfl ?_
    refine L.nil ?_
    refine At.then ?_
    refine At.ret ?_
    exact absurd hk (by omega)
end Go.Proofs.YtagkobkmaigfcaaDoor

/- Guarded operations in regions that draw. -/
namespace Go.SL
open Go Go.RowKit
section
variable {P : Program} {E : Env} {n : Nat} {D : List Deferred} {ts : List (Nat × Value)} {l : List HP} {ops : Array Oper} {Q : Exit → Act → World → Prop} {fuel : Nat} {listed : Array Bool} {S : List (Nat × (World → Prop))}
/-- is this not the word that is waited for? -/
def notWord : Value → Bool → Bool
  | .bool c, b => c != b
  | _, _ => true
theorem wanted_not {a : Act} {o : Oper} {j t : Nat} {b : Bool} {u : Value} (f : Fits n D ts a) (hg : o.guard = some (j, b)) (ht : (ops[j]?).bind (·.dst) = some t) (hv : look t ts = some u) (hb : notWord u b = true) : Region.wanted o (yielded ops a.tmps) = false := by
  have h1 := f.get t u hv
  have hy : yielded ops a.tmps j ≠ some b := by
    unfold yielded
    rw [ht, Option.bind_some, h1]
    cases u <;> simp_all [notWord]
  simp only [Region.wanted, hg]
  cases hq : yielded ops a.tmps j with
  | none => rfl
  | some c =>
    rw [hq] at hy
    cases c <;> cases b <;> simp_all
/-- a guarded one that is passed over -/
theorem Dr.skip (i : Nat) {o : Oper} {d j t : Nat} {b : Bool} {u : Value} (hi : ops[i]? = some o) (ho : o.dst = some d) (hd : Nat.blt d n = true) (hg : o.guard = some (j, b)) (ht : (ops[j]?).bind (·.dst) = some t) (hv : look t ts = some u) (hb : notWord u b = true) (hm : mayTake ops listed i = true)
    (h : At E n D ((d, undef) :: ts) l (Draw P ops (NoPanic Q) fuel (listed.setIfInBounds i true) S)) : At E n D ts l (Draw P ops (NoPanic Q) (fuel + 1) listed S) := fun a w f hw hS => by
  simp only [mayTake, Bool.and_eq_true] at hm
  have hS' : ∀ p ∈ (i, Any) :: S, p.2 w := fun p hp => by
    rcases List.mem_cons.1 hp with rfl | hp
    · trivial
    · exact hS p hp
  refine wpAnyP_take (v := undef) (φ := Any) hi (Region.noSelect_spec hm.1.1) (fun _ _ _ h => h.elim) fuel listed S a w (Region.free_spec hi hm.2) (by simpa using hm.1.2) (.inr ⟨wanted_not f hg ht hv hb, rfl⟩) trivial hS ?_
  rw [ho]
  exact wpAnyP_more fuel _ S i _ w (h _ w (f.put d (Nat.le_of_ble_eq_true hd) _) hw hS)
/-- .. where regions do not draw -/
theorem L.skip {rest : List Oper} {o : Oper} {j t d : Nat} {b : Bool} {u : Value} (ho : o.dst = some d) (hi : Nat.blt d n = true) (hg : o.guard = some (j, b)) (ht : (ops[j]?).bind (·.dst) = some t) (hv : look t ts = some u) (hb : notWord u b = true) (h : At E n D ((d, undef) :: ts) l (wpList P ops Q rest)) : At E n D ts l (wpList P ops Q (o :: rest)) := fun a w f hw => by
  unfold wpList
  rw [if_neg (by rw [wanted_not f hg ht hv hb]; simp), ho]
  exact h _ w (f.put d (Nat.le_of_ble_eq_true hi) _) hw
/-- a guarded one that is wanted, and looks at the world -/
theorem Dr.gl (i : Nat) {op : Op} {ty : TypeId} {pos : String} {af : Array Edge} {d j t : Nat} {b : Bool} {v : Value} {φ : World → Prop} (hi : ops[i]? = some ⟨some d, op, ty, pos, af, some (j, b)⟩) (hd : Nat.blt d n = true) (ht : (ops[j]?).bind (·.dst) = some t) (hv : look t ts = some (.bool b)) (hm : mayTake ops listed i = true) (hev : Ev P ts op v φ) (hφ : ∀ w, Holds E w l → φ w)
    (h : At E n D ((d, v) :: ts) l (Draw P ops (NoPanic Q) fuel (listed.setIfInBounds i true) ((i, φ) :: S))) : At E n D ts l (Draw P ops (NoPanic Q) (fuel + 1) listed S) := by
  simp only [mayTake, Bool.and_eq_true] at hm
  exact Dr.on i (_o := ⟨some d, op, ty, pos, af, some (j, b)⟩) hm.1.1 hi hd ht hv hm.1.2 hm.2 hev hφ h
/-- .. and asks nothing of the world -/
theorem Dr.gp (i : Nat) {op : Op} {ty : TypeId} {pos : String} {af : Array Edge} {d j t : Nat} {b : Bool} {v : Value} (hi : ops[i]? = some ⟨some d, op, ty, pos, af, some (j, b)⟩) (hd : Nat.blt d n = true) (ht : (ops[j]?).bind (·.dst) = some t) (hv : look t ts = some (.bool b)) (hm : mayTake ops listed i = true) (hev : Ev P ts op v Any)
    (h : At E n D ((d, v) :: ts) l (Draw P ops (NoPanic Q) fuel (listed.setIfInBounds i true) S)) : At E n D ts l (Draw P ops (NoPanic Q) (fuel + 1) listed S) := fun a w f hw hS => by
  simp only [mayTake, Bool.and_eq_true] at hm
  have hS' : ∀ p ∈ (i, Any) :: S, p.2 w := fun p hp => by
    rcases List.mem_cons.1 hp with rfl | hp
    · trivial
    · exact hS p hp
  refine wpAnyP_take hi (Region.noSelect_spec hm.1.1) (fun _ _ _ h => h.elim) fuel listed S a w (Region.free_spec hi hm.2) (by simpa using hm.1.2) (.inl ⟨by simp [Region.wanted, yielded, ht, f.get t _ hv], fun w hw => hev a w _ _ _ _ _ f.knows hw⟩) trivial hS ?_
  exact wpAnyP_more fuel _ S i _ w (h _ w (f.put d (Nat.le_of_ble_eq_true hd) v) hw hS)
end
end Go.SL
