/- The walks of flow's reader: lists of nodes; what is deferred in Read. -/
import Derived.Test.YtagkobkmaigfcaaDoorRead2
namespace Go.Proofs.YtagkobkmaigfcaaDoor
open Go Go.RowKit Go.SL
variable {G : Env → Prop}

theorem dropApp : ∀ (a : List HP) {b : List HP}, Ent (a ++ b) b
  | [], _ => Ent.refl _
  | _ :: a, _ => Ent.drop.trans (dropApp a)

theorem fill_node (nd : FK.Node) (v : Value) : Instr.fill (fun i => some (i * 7, 7)) (Array.map (fun x => (Value.agg #[.int .i64 0, .int .i64 0, .int .i64 0, .int .i64 0, .int .i64 0, .int .i64 0, .slice none 0 0]).cells[x % (Value.agg #[.int .i64 0, .int .i64 0, .int .i64 0, .int .i64 0, .int .i64 0, .int .i64 0, .slice none 0 0]).cells.size]!) (Array.range (1 * 7)))
    ((List.map (fun x => x.1) [((0 : Nat), Operand.tmp 15)]).zip [Value.agg (nodeCells nd v).toArray]) = some (nodeCells nd v).toArray := by
  have e1 : Array.range (1 * 7) = #[0, 1, 2, 3, 4, 5, 6] := rfl
  rw [e1]
  simp [Instr.fill, nodeCells, Value.cells]

theorem aftsAt_snoc {vs : List Value} {ns : List FK.Node} {v : Value} {nd : FK.Node} (h : vs.length = ns.length) : aftsAt (vs ++ [v]) (ns ++ [nd]) = aftsAt vs ns ++ [intsAt v nd.after] := by
  unfold aftsAt
  rw [List.zip_append h]
  simp

theorem nodes_snoc {v' : Value} {vs : List Value} {ns : List FK.Node} {u : Value} {nd : FK.Node} {fr : List HP} {x y z : HP} (h : vs.length = ns.length) :
    Ent (row 32 7 v' (ns.length + 1) (nodesV ns vs ++ nodeCells nd u) :: x :: intsAt u nd.after :: y :: z :: (aftsAt vs ns ++ fr)) (y :: z :: row 32 7 v' (ns ++ [nd]).length (nodesV (ns ++ [nd]) (vs ++ [u])) :: (aftsAt (vs ++ [u]) (ns ++ [nd]) ++ fr)) := by
  rw [aftsAt_snoc h, nodesV_snoc ns vs nd u h, show (ns ++ [nd]).length = ns.length + 1 by simp]
  refine (Ent.cons Ent.drop).trans (Ent.perm ?_)
  have h1 : (([row 32 7 v' (ns.length + 1) (nodesV ns vs ++ nodeCells nd u), intsAt u nd.after] ++ [y, z]) ++ (aftsAt vs ns ++ fr)).Perm (([y, z] ++ [row 32 7 v' (ns.length + 1) (nodesV ns vs ++ nodeCells nd u), intsAt u nd.after]) ++ (aftsAt vs ns ++ fr)) := List.perm_append_comm.append_right _
  refine h1.trans (List.Perm.cons _ (List.Perm.cons _ (List.Perm.cons _ ?_)))
  have h2 : (intsAt u nd.after :: (aftsAt vs ns ++ fr)).Perm (aftsAt vs ns ++ intsAt u nd.after :: fr) := List.perm_middle.symm
  simpa using h2

theorem nodes_close {v : Value} {vs : List Value} {ns : List FK.Node} {fr : List HP} {y z : HP} (h : vs.length = ns.length) :
    Ent (y :: z :: row 32 7 v ns.length (nodesV ns vs) :: (aftsAt vs ns ++ fr)) (nodesOwn v ns :: y :: z :: fr) := by
  refine (Ent.perm ?_).trans (nodesOwn.ent h)
  have h1 : (([y, z] ++ (row 32 7 v ns.length (nodesV ns vs) :: aftsAt vs ns)) ++ fr).Perm (((row 32 7 v ns.length (nodesV ns vs) :: aftsAt vs ns) ++ [y, z]) ++ fr) := List.perm_append_comm.append_right _
  simpa using h1

set_option maxRecDepth 10000 in
theorem list_node {p : HP} {A : Option Addr} {c : Nat} {bs : List UInt8} (hp : Reads p A bs) (hl : bs.length ≤ 1099511627776) (r q : Nat) (hq : q ≤ bs.length) :
    DoesX Tryd.prog G 85 [.pointer (some ⟨r, 0, none⟩), .func (.func 86) #[.pointer (some ⟨r, 0, none⟩)] #[]].toArray [blk r 156 #[.slice A bs.length c, .int .i64 q], p]
      (fun u m => ∃ (ns : List FK.Node) (q' : Nat), FK.rdList bs (FK.rdNode bs) q = .ok (ns, q') ∧ q' ≤ bs.length ∧ (∀ x ∈ ns, Small x) ∧ (∃ A' c', u = .slice A' ns.length c') ∧ m = [nodesOwn u ns, blk r 156 #[.slice A bs.length c, .int .i64 q'], p])
      (fun x m => ∃ e q' : Nat, FK.rdList bs (FK.rdNode bs) q = .error e ∧ x = cutAt e ∧ m = [blk r 156 #[.slice A bs.length c, .int .i64 q'], p]) := by
  refine DoesX.body Tryd.func85 rfl rfl fun E fr hE => ?_
  refine At.app2 ?_
  refine At.seq ?_
  refine At.region ?_
  refine L.as rfl rfl ?_
  refine L.nil ?_
  refine At.then ?_
  refine At.seq ?_
  refine At.region ?_
  refine L.as rfl rfl ?_
  refine L.nil ?_
  refine At.then ?_
  refine At.seq ?_
  refine At.seq ?_
  refine At.region ?_
  refine L.mv rfl rfl ?_
  refine L.op rfl (o_callX rfl rfl rfl hE (reader_number hp hl r q hq) (Ent.refl _) ?_ ?_)
  ·
    rintro c m ⟨e, q', he, rfl, rfl⟩
    refine At.app2 ?_
    refine At.thenPanic (At.thenPanic ?_)
    exact At.panicX _ ⟨e, q', rdList_err he, rfl, rfl⟩ (Ent.refl _)
  rintro v m ⟨n, q1, hn, rfl, rfl⟩
  refine At.app2 ?_
  obtain ⟨hn1, hn2, hn3⟩ := FK.rd_lt hn
  refine L.as rfl rfl ?_
  refine L.nil ?_
  refine At.then ?_
  refine At.block ?_
  refine At.loop (X := Nat × List FK.Node × List Value × Value × Nat) (fun x => [(6, .int .i64 x.1), (5, x.2.2.2.1), (0, .pointer (some ⟨r, 0, none⟩)), (1, .func (.func 86) #[.pointer (some ⟨r, 0, none⟩)] #[])]) (fun x => blk r 156 #[.slice A bs.length c, .int .i64 x.2.2.2.2] :: p :: row 32 7 x.2.2.2.1 x.2.1.length (nodesV x.2.1 x.2.2.1) :: (aftsAt x.2.2.1 x.2.1 ++ fr)) (fun x => FK.many (FK.rdNode bs) x.1 x.2.1 x.2.2.2.2 = FK.rdList bs (FK.rdNode bs) q ∧ x.2.2.2.2 ≤ bs.length ∧ (∀ y ∈ x.2.1, Small y) ∧ x.2.1.length + x.1 ≤ 2097152 ∧ x.2.2.1.length = x.2.1.length) (fun x => x.1) (n, [], [], .slice none 0 0, q1) ⟨(rdList_ok hn).symm, hn3, by simp, by simp; omega, rfl⟩ ⟨rfl, rfl, rfl, rfl, trivial⟩ (Ent.cons (Ent.cons Ent.row0)) ?_
  rintro ⟨k, ns, vs, v5, q2⟩ ⟨hm, hq2, hb, hlen, hvs⟩
  simp only at hm hq2 hb hlen hvs ⊢
  refine At.seq ?_
  refine At.seq ?_
  refine At.region ?_
  refine L.mv rfl rfl ?_
  refine L.pure rfl (ev_gtr rfl rfl rfl) ?_
  refine L.nil ?_
  refine At.then ?_
  refine At.condD rfl (fun c10 => ?_) (fun c10 => ?_)
  ·
    obtain ⟨k, rfl⟩ : ∃ j, k = j + 1 := ⟨k - 1, by omega⟩
    refine At.skip ?_
    refine At.then ?_
    refine At.seq ?_
    refine At.block ?_
    refine At.region ?_
    refine L.mv rfl rfl ?_
    refine L.mv rfl rfl ?_
    refine L.op rfl (o_callVX rfl rfl rfl rfl hE (reader_node (c := c) hp hl r q2 hq2) (Ent.refl _) ?_ ?_)
    ·
      rintro c m ⟨e, q', he, rfl, rfl⟩
      refine At.app2 ?_
      refine At.inBlockPanic (At.thenPanic (At.roundPanic (At.inBlockPanic (At.thenPanic ?_))))
      exact At.panicX [_, _] ⟨e, q', by rw [← hm, many_err he], rfl, rfl⟩ (Ent.cons (Ent.cons (Ent.drop.trans (dropApp _))))
    rintro v m ⟨nd, u6, q3, hy, hq3, hsm, rfl, rfl⟩
    refine At.app3 ?_
    refine At.formRow .head ?_
    rintro A6 c6 rfl _ _ _ _ _
    refine L.op rfl (o_slices (m := 1) (z := .agg #[.int .i64 0, .int .i64 0, .int .i64 0, .int .i64 0, .int .i64 0, .int .i64 0, .slice none 0 0]) (size := 7) (ps := [(0, .tmp 15)]) (vs := [.agg (nodeCells nd (.slice A6 nd.after.length c6)).toArray]) (cs := (nodeCells nd (.slice A6 nd.after.length c6)).toArray) rfl rfl rfl rfl (by omega) (by omega) rfl (fill_node _ _) fun b16 => ?_)
    refine L.op rfl (o_append rfl rfl infoNode rfl (by omega) rfl rfl (.tail (.tail (.tail (.tail (.head))))) (news := nodeCells nd (.slice A6 nd.after.length c6)) rfl (fun h => by cases h) (srcIs (fun j u h => by simpa using h)) (by simp [nodeCells, Value.oneCell']) (by unfold maxLen; omega) (by omega) fun v' hv' => ?_)
    refine L.as rfl rfl ?_
    refine L.nil ?_
    refine At.inBlock (At.then ?_)
    refine At.region ?_
    refine L.mv rfl rfl ?_
    refine L.pure rfl (ev_sub (r := (k : Int)) rfl rfl (by rw [w64 (by omega)]; omega)) ?_
    refine L.as rfl rfl ?_
    refine L.nil ?_
    exact At.round (k, ns ++ [nd], vs ++ [.slice A6 nd.after.length c6], v', q3) ⟨by rw [← hm, many_succ hy], hq3, fun z hz => (by rcases List.mem_append.1 hz with h | h; exact hb z h; simp at h; rw [h]; exact hsm), by simp only [List.length_append, List.length_cons, List.length_nil]; omega, by simp [hvs]⟩ (by simp only; omega) ⟨rfl, rfl, rfl, rfl, trivial⟩ (nodes_snoc hvs)
  ·
    obtain rfl : k = 0 := by omega
    refine At.formRow (.tail (.tail (.head))) ?_
    rintro A6 c6 rfl _ _ _ _ _
    refine At.exit ?_
    refine At.thenExit (At.roundExit (At.inBlockHit (At.then ?_)))
    refine At.seq ?_
    refine At.region ?_
    refine L.mv rfl rfl ?_
    refine L.as rfl rfl ?_
    refine L.nil ?_
    refine At.then ?_
    refine At.ret ?_
    exact At.endsX (.inl rfl) (At.ret1 [_, _, _] rfl rfl ⟨ns, q2, by rw [← hm, many_zero], hq2, hb, ⟨_, _, rfl⟩, rfl⟩ (nodes_close hvs))
end Go.Proofs.YtagkobkmaigfcaaDoor
