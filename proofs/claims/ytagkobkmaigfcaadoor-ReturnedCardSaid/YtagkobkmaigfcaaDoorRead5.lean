/- The walk of flow.Read. -/
import Derived.Test.YtagkobkmaigfcaaDoorRead4
namespace Go.Proofs.YtagkobkmaigfcaaDoor
open Go Go.RowKit Go.SL

/-- what a call of Read comes to, the error as a pair -/
def ReadPost (bs : List UInt8) (p : HP) (v : Value) (m : List HP) : Prop :=
  (∃ (f : FK.Flow) (A' : Option Addr) (c' : Nat), FK.dec bs = .ok f ∧ (∀ nd ∈ f.nodes, Small nd) ∧ v = .tuple #[.agg #[.int .i64 f.deadline, .slice A' f.nodes.length c'], .nilIface] ∧ m = [nodesOwn (.slice A' f.nodes.length c') f.nodes, p]) ∨
  (∃ (e a : Int) (b : Nat), FK.dec bs = .error (e, a) ∧ e ≠ 0 ∧ v = .tuple #[.agg #[.int .i64 0, .slice none 0 0], .iface 95 (.pointer (some ⟨b, 0, none⟩))] ∧ m = [blk b 100 #[.int .i64 e, .int .i64 a], p])

set_option maxRecDepth 10000 in
theorem read_does {p : HP} {A : Option Addr} {c : Nat} {bs : List UInt8} (hp : Reads p A bs) (hl : bs.length ≤ 1099511627776) :
    Does Tryd.prog Good 58 [.slice A bs.length c].toArray [p] (ReadPost bs p) := by
  refine Does.bodyF Tryd.func58 rfl rfl fun E fr hE => ?_
  refine At.app1 ?_
  refine At.seq ?_
  refine At.region ?_
  refine L.op rfl (o_alloc (z := .agg #[.int .i64 0, .slice none 0 0]) rfl rfl fun b2 => ?_)
  refine L.op rfl (o_alloc (z := .nilIface) rfl rfl fun b3 => ?_)
  refine L.nil ?_
  refine At.then ?_
  refine At.seq ?_
  refine At.region ?_
  refine L.pure rfl (ev_func rfl rfl) ?_
  refine L.op rfl (o_defer rfl ?_)
  refine L.nil ?_
  refine At.then ?_
  refine At.seq ?_
  refine At.region ?_
  refine L.mv rfl rfl ?_
  refine L.pure rfl (ev_build (ps := [(0, .tmp 7)]) (vs := [.slice A bs.length c]) (cs := #[.slice A bs.length c, .int .i64 0]) rfl rfl rfl rfl rfl) ?_
  refine L.op rfl (o_box rfl rfl fun b9 => ?_)
  refine L.as rfl rfl ?_
  refine L.nil ?_
  refine At.then ?_
  refine At.seq ?_
  refine At.region ?_
  refine L.mv rfl rfl ?_
  refine L.op rfl (o_callX rfl rfl rfl hE (reader_number (c := c) hp hl b9 0 (Nat.zero_le _)) (Ent.sel2 .head (.tail (.tail (.head)))) ?_ ?_)
  ·
    rintro c m ⟨e, q', he, rfl, rfl⟩
    refine At.app2 ?_
    refine At.thenPanic ?_
    refine At.leaveX rfl rfl hE (catch_cut b2 b3 e _ _ _) (Ent.sel2 (.tail (.tail (.tail (.head)))) (.tail (.tail (.head)))) ?_
    rintro m ⟨b, rfl⟩
    refine At.app3 ?_
    exact At.res2 [_, _] rfl (Res.cellN (vs := [.int .i64 0, .slice none 0 0]) rfl rfl rfl rfl (rowAll rfl)) (Res.cell1 rfl rfl (cellIs rfl)) (.inr ⟨1, e, b, dec_bad1 he, by omega, rfl, rfl⟩) (Ent.drop.trans (Ent.drop.trans (Ent.cons Ent.drop)))
  rintro v m ⟨n, q1, hn, rfl, rfl⟩
  refine At.app2 ?_
  refine L.fa 0 rfl rfl rfl ?_
  refine L.st rfl rfl rfl rfl (by first | decide | simp | (simp; omega)) ?_
  refine L.nil ?_
  refine At.then ?_
  refine At.seq ?_
  refine At.region ?_
  refine L.mv rfl rfl ?_
  refine L.mv rfl rfl ?_
  refine L.pure rfl (ev_func rfl rfl) ?_
  refine L.op rfl (o_callX rfl rfl rfl hE (list_node (c := c) hp hl b9 q1 (FK.rd_lt hn).2.2) (Ent.sel2 (.tail (.head)) (.tail (.head))) ?_ ?_)
  ·
    rintro c m ⟨e, q', he, rfl, rfl⟩
    refine At.app2 ?_
    refine At.thenPanic ?_
    refine At.leaveX rfl rfl hE (catch_cut b2 b3 e _ _ _) (Ent.sel2 (.tail (.tail (.head))) (.tail (.tail (.head)))) ?_
    rintro m ⟨b, rfl⟩
    refine At.app3 ?_
    exact At.res2 [_, _] rfl (Res.cellN (vs := [.int .i64 0, .slice none 0 0]) rfl rfl rfl rfl (rowAll rfl)) (Res.cell1 rfl rfl (cellIs rfl)) (.inr ⟨1, e, b, rdFlow_err hn he, by omega, rfl, rfl⟩) (Ent.drop.trans (Ent.drop.trans (Ent.cons Ent.drop)))
  rintro v m ⟨ns, q2, hns, hq2, hsm, ⟨A', c', rfl⟩, rfl⟩
  refine At.app3 ?_
  refine L.fa 1 rfl rfl rfl ?_
  refine L.st rfl rfl rfl rfl (by simp [Value.cells]) ?_
  have hflow := rdFlow_ok hn hns
  refine L.nil ?_
  refine At.then ?_
  refine At.seq ?_
  refine At.seq ?_
  refine At.region ?_
  refine L.mv rfl rfl ?_
  refine L.nc rfl rfl ?_
  refine L.fa 1 rfl rfl rfl ?_
  refine L.ld rfl rfl rfl rfl ?_
  refine L.mv rfl rfl ?_
  refine L.pure rfl (ev_lenS rfl rfl) ?_
  refine L.pure rfl (ev_lss rfl rfl rfl) ?_
  refine L.nil ?_
  refine At.then ?_
  refine At.condD rfl (fun c24 => ?_) (fun c24 => ?_)
  ·
    refine At.region ?_
    refine L.mv rfl rfl ?_
    refine L.nc rfl rfl ?_
    refine L.fa 1 rfl rfl rfl ?_
    refine L.ld rfl rfl rfl rfl ?_
    refine L.pure rfl (ev_iface rfl rfl rfl) ?_
    refine L.op rfl (o_panic rfl ?_)
    refine At.thenPanic ?_
    refine At.leaveX rfl rfl hE (catch_cut b2 b3 q2 _ _ _) (Ent.sel2 .head (.tail (.tail (.tail (.head))))) ?_
    rintro m ⟨b, rfl⟩
    refine At.app3 ?_
    exact At.res2 [_, _] rfl (Res.cellN (vs := [.int .i64 0, .slice none 0 0]) rfl rfl rfl rfl (rowAll rfl)) (Res.cell1 rfl rfl (cellIs rfl)) (.inr ⟨1, q2, b, dec_more hflow (by omega), by omega, rfl, rfl⟩) (Ent.drop.trans (Ent.drop.trans (Ent.cons (Ent.drop.trans Ent.drop))))
  ·
    refine At.skip ?_
    refine At.then ?_
    refine At.seq ?_
    refine At.seq ?_
    by_cases hc0 : (FK.chk ⟨n, ns⟩).1 = 0
    ·
      refine At.region ?_
      refine L.val rfl (ev_loadN (vs := [.int .i64 n, .slice A' ns.length c']) rfl rfl rfl rfl) (rowAll rfl) ?_
      refine L.op rfl (o_give rfl rfl rfl hE (check_gives ⟨n, ns⟩ A' c') (nodesOwn.at (.tail (.head)) fun nd hnd => (hsm nd hnd).i64) ?_)
      rintro v m hv
      obtain ⟨rfl, rfl⟩ := hv.ok hc0
      refine At.app0 ?_
      refine L.as rfl rfl ?_
      refine L.nil ?_
      refine At.then ?_
      refine At.seq ?_
      refine At.region ?_
      refine L.mv rfl rfl ?_
      refine L.pure rfl (ev_neqNil0 rfl rfl) ?_
      refine L.nil ?_
      refine At.then ?_
      refine At.condF rfl ?_
      refine At.skip ?_
      refine At.then ?_
      refine At.seq ?_
      refine At.region ?_
      refine L.val rfl (ev_loadN (vs := [.int .i64 n, .slice A' ns.length c']) rfl rfl rfl rfl) (rowAll rfl) ?_
      refine L.op rfl (o_storeN rfl (m := 2) (vs := [.int .i64 n, .slice A' ns.length c']) rfl rfl rfl rfl (by simp [Value.oneCell']) (by simp [Value.cells]) ?_)
      refine L.st rfl rfl rfl rfl (by first | decide | simp | (simp; omega)) ?_
      refine L.nil ?_
      refine At.then ?_
      refine At.ret ?_
      refine At.leave (.inl rfl) rfl rfl hE (catch_idle b2 b3 _ _ _) (Ent.sel2 (.tail (.head)) .head) ?_
      rintro m rfl
      refine At.app2 ?_
      exact At.res2 [_, _] rfl (Res.cellN (vs := [.int .i64 n, .slice A' ns.length c']) rfl rfl rfl rfl (rowAll rfl)) (Res.cell1 rfl rfl (cellIs rfl)) (.inl ⟨⟨n, ns⟩, A', c', dec_good hflow (by omega) hc0, hsm, rfl, rfl⟩) (Ent.drop.trans (Ent.drop.trans (Ent.cons Ent.drop)))
    ·
      refine At.region ?_
      refine L.val rfl (ev_loadN (vs := [.int .i64 n, .slice A' ns.length c']) rfl rfl rfl rfl) (rowAll rfl) ?_
      refine L.op rfl (o_give rfl rfl rfl hE (check_gives ⟨n, ns⟩ A' c') (nodesOwn.at (.tail (.head)) fun nd hnd => (hsm nd hnd).i64) ?_)
      rintro v m hv
      obtain ⟨b, rfl, rfl⟩ := hv.bad hc0
      refine At.app1 ?_
      refine L.as rfl rfl ?_
      refine L.nil ?_
      refine At.then ?_
      refine At.seq ?_
      refine At.region ?_
      refine L.mv rfl rfl ?_
      refine L.pure rfl (ev_neqNil rfl rfl) ?_
      refine L.nil ?_
      refine At.then ?_
      refine At.condT rfl ?_
      refine At.seq ?_
      refine At.region ?_
      refine L.pure rfl (ev_build (ps := []) (vs := []) (cs := #[.int .i64 0, .slice none 0 0]) rfl rfl rfl rfl rfl) ?_
      refine L.mv rfl rfl ?_
      refine L.op rfl (o_storeN rfl (m := 2) (vs := [.int .i64 0, .slice none 0 0]) rfl rfl rfl rfl (by simp [Value.oneCell']) (by simp [Value.cells]) ?_)
      refine L.st rfl rfl rfl rfl (by first | decide | simp | (simp; omega)) ?_
      refine L.nil ?_
      refine At.then ?_
      refine At.ret ?_
      refine At.thenRet ?_
      refine At.leave (.inl rfl) rfl rfl hE (catch_idle b2 b3 _ _ _) (Ent.sel2 (.tail (.head)) .head) ?_
      rintro m rfl
      refine At.app2 ?_
      exact At.res2 [_, _] rfl (Res.cellN (vs := [.int .i64 0, .slice none 0 0]) rfl rfl rfl rfl (rowAll rfl)) (Res.cell1 rfl rfl (cellIs rfl)) (.inr ⟨_, _, b, dec_chk hflow (by omega) hc0, hc0, rfl, rfl⟩) (Ent.drop.trans (Ent.drop.trans (Ent.cons (Ent.drop.trans Ent.drop))))
end Go.Proofs.YtagkobkmaigfcaaDoor
