/- The walks of Encode: flowkeeper's, plain's, the document's. -/
import Derived.Test.YtagkobkmaigfcaaDoorEnc2
import Derived.Test.YtagkobkmaigfcaaDoorRead5
import Derived.Test.YtagkobkmaigfcaaDoorRefEnc
import Derived.Test.YtagkobkmaigfcaaDoorErrT
import Derived.Test.YtagkobkmaigfcaaDoorRefCheckB
namespace Go.Proofs.YtagkobkmaigfcaaDoor
open Go Go.RowKit Go.SL

theorem Fit.enc {f : FK.Flow} (h : FK.Fit f) : ∃ d : Nat, f.deadline = d ∧ d ≤ 1048576 ∧ f.nodes.length ≤ 12 ∧ ∀ n ∈ f.nodes, FK.NodeOk n ∧ FK.EdgesOk f.nodes.length (-1) n.after := by
  obtain ⟨⟨h1, h2⟩, h3, h4⟩ := h.head
  refine ⟨f.deadline.toNat, by omega, by omega, h4, fun n hn => ?_⟩
  obtain ⟨i, hi⟩ := List.getElem?_of_mem hn
  exact h.nodes i n (List.getElem?_eq_some_iff.1 hi).1 hi

set_option maxRecDepth 10000 in
theorem fk_encode (dl : Int) (ns : List FK.Node) (A : Option Addr) (c : Nat) : Gives Tryd.prog Good 31 [.agg #[.int .i64 dl, .slice A ns.length c]].toArray (fun w => NodesAt w w.heap.size A c ns)
    fun v m => ((FK.chk ⟨dl, ns⟩).1 = 0 ∧ ∃ bv, v = .tuple #[bv, .nilIface] ∧ m = [bytesAt bv (FK.encFlow ⟨dl, ns⟩)]) ∨ ((FK.chk ⟨dl, ns⟩).1 ≠ 0 ∧ ∃ b, v = .tuple #[.slice none 0 0, .iface 95 (.pointer (some ⟨b, 0, none⟩))] ∧ m = [blk b 100 #[.int .i64 (FK.chk ⟨dl, ns⟩).1, .int .i64 (FK.chk ⟨dl, ns⟩).2]]) := by
  refine Gives.body Tryd.func31 rfl rfl fun E w0 hE h0 hN => ?_
  refine At.seq ?_
  refine At.region ?_
  refine L.op rfl (o_box rfl rfl fun b1 => ?_)
  refine L.as rfl rfl ?_
  refine L.as rfl rfl ?_
  refine L.nil ?_
  refine At.then ?_
  refine At.seq ?_
  refine At.seq ?_
  by_cases hc0 : (FK.chk ⟨dl, ns⟩).1 = 0
  ·
    refine At.region ?_
    refine L.val rfl (ev_loadN (vs := [.int .i64 dl, .slice A ns.length c]) rfl rfl rfl rfl) (rowAll rfl) ?_
    refine L.op rfl (o_give rfl rfl rfl hE (check_gives ⟨dl, ns⟩ A c) (nodesLater (.tail (.head)) h0 hN (Nat.le_refl _)) ?_)
    rintro v m hv
    obtain ⟨rfl, rfl⟩ := hv.ok hc0
    refine At.app0 ?_
    obtain ⟨d, hd, hd1, hl, ho⟩ := Fit.enc (FK.chk_zero hc0)
    simp only at hd hl ho
    subst hd
    refine L.as rfl rfl ?_
    refine L.nil ?_
    refine At.then ?_
    refine At.seq ?_
    refine At.region ?_
    refine L.mv rfl rfl ?_
    refine L.pure rfl (ev_neqNil0 rfl rfl) ?_
    refine L.nil ?_
    refine At.then ?_
    refine At.condF rfl ?_
    refine At.skip ?_
    refine At.then ?_
    refine At.seq ?_
    refine At.region ?_
    refine L.val rfl (ev_loadN (vs := [.int .i64 d, .slice A ns.length c]) rfl rfl rfl rfl) (rowAll rfl) ?_
    refine L.op rfl (o_give rfl rfl rfl hE (Bytes_gives d A c ns hd1 hl ho) (nodesLater (.tail (.head)) h0 hN (Nat.le_refl _)) ?_)
    rintro v m rfl
    refine At.app1 ?_
    refine L.as rfl rfl ?_
    refine L.as rfl rfl ?_
    refine L.nil ?_
    refine At.then ?_
    refine At.ret ?_
    exact At.ret2 [_] rfl rfl rfl (.inl ⟨hc0, _, rfl, rfl⟩) (Ent.cons Ent.drop)
  ·
    refine At.region ?_
    refine L.val rfl (ev_loadN (vs := [.int .i64 dl, .slice A ns.length c]) rfl rfl rfl rfl) (rowAll rfl) ?_
    refine L.op rfl (o_give rfl rfl rfl hE (check_gives ⟨dl, ns⟩ A c) (nodesLater (.tail (.head)) h0 hN (Nat.le_refl _)) ?_)
    rintro v m hv
    obtain ⟨b, rfl, rfl⟩ := hv.bad hc0
    refine At.app1 ?_
    refine L.as rfl rfl ?_
    refine L.nil ?_
    refine At.then ?_
    refine At.seq ?_
    refine At.region ?_
    refine L.mv rfl rfl ?_
    refine L.pure rfl (ev_neqNil rfl rfl) ?_
    refine L.nil ?_
    refine At.then ?_
    refine At.condT rfl ?_
    refine At.seq ?_
    refine At.region ?_
    refine L.mv rfl rfl ?_
    refine L.as rfl rfl ?_
    refine L.as rfl rfl ?_
    refine L.nil ?_
    refine At.then ?_
    refine At.ret ?_
    refine At.thenRet ?_
    exact At.ret2 [_] rfl rfl rfl (.inr ⟨hc0, b, rfl, rfl⟩) (Ent.cons Ent.drop)

/-- what Encode comes to, told -/
def EncPost (f : FK.Flow) (v : Value) (m : List HP) : Prop :=
  ((FK.chk f).1 = 0 ∧ ∃ bv, v = .tuple #[bv, .int .i64 0, .int .i64 (-1)] ∧ m = [bytesAt bv (FK.encFlow f)]) ∨ ((FK.chk f).1 ≠ 0 ∧ v = .tuple #[.slice none 0 0, .int .i64 (FK.chk f).1, .int .i64 (FK.chk f).2] ∧ m = [])

set_option maxRecDepth 10000 in
theorem plain_encode (dl : Int) (ns : List FK.Node) (A : Option Addr) (c : Nat) (hfit : FlowFits ns) : Gives Tryd.prog Good 14 [.agg #[.int .i64 dl, .slice A ns.length c]].toArray (fun w => NodesAt w w.heap.size A c ns) (EncPost ⟨dl, ns⟩) := by
  refine Gives.body Tryd.func14 rfl rfl fun E w0 hE h0 hN => ?_
  refine At.seq ?_
  refine At.region ?_
  refine L.op rfl (o_box rfl rfl fun b1 => ?_)
  refine L.as rfl rfl ?_
  refine L.as rfl rfl ?_
  refine L.as rfl rfl ?_
  refine L.nil ?_
  refine At.then ?_
  refine At.seq ?_
  refine At.region ?_
  refine L.val rfl (ev_loadN (vs := [.int .i64 dl, .slice A ns.length c]) rfl rfl rfl rfl) (rowAll rfl) ?_
  refine L.op rfl (o_give rfl rfl rfl hE (copied_gives dl A c ns hfit) (nodesLater (.tail (.head)) h0 hN (Nat.le_refl _)) ?_)
  rintro v m ⟨A', c', rfl, rfl⟩
  refine At.app1 ?_
  refine L.op rfl (o_alloc (z := .agg #[.int .i64 0, .slice none 0 0]) rfl rfl fun b5 => ?_)
  refine L.op rfl (o_storeN rfl (m := 2) (vs := [.int .i64 dl, .slice A' ns.length c']) rfl rfl rfl rfl (by simp [Value.oneCell']) (by simp [Value.cells]) ?_)
  refine L.nil ?_
  refine At.then ?_
  refine At.seq ?_
  by_cases hc0 : (FK.chk ⟨dl, ns⟩).1 = 0
  ·
    refine At.region ?_
    refine L.val rfl (ev_loadN (vs := [.int .i64 dl, .slice A' ns.length c']) rfl rfl rfl rfl) (rowAll rfl) ?_
    refine L.op rfl (o_give rfl rfl rfl hE (fk_encode dl ns A' c') (nodesOwn.at (.tail (.head)) hN.i64s) ?_)
    rintro v m hv
    obtain ⟨bv, rfl, rfl⟩ : ∃ bv, v = .tuple #[bv, .nilIface] ∧ m = [bytesAt bv (FK.encFlow ⟨dl, ns⟩)] := hv.elim (fun h => h.2) fun h => absurd hc0 h.1
    refine At.app1 ?_
    refine L.mv rfl rfl ?_
    refine L.ex rfl rfl rfl ?_
    refine L.ex rfl rfl rfl ?_
    refine L.as rfl rfl ?_
    refine L.as rfl rfl ?_
    refine L.nil ?_
    refine At.then ?_
    refine At.seq ?_
    refine At.region ?_
    refine L.val rfl (ev_loadN (vs := [.int .i64 dl, .slice A' ns.length c']) rfl rfl rfl rfl) (rowAll rfl) ?_
    refine L.op rfl (o_call rfl rfl rfl hE (turn_does dl A' c' ns) (Ent.sel (.tail (.tail (.head)))) ?_)
    rintro v m ⟨rfl, rfl⟩
    refine At.app0 ?_
    refine L.nil ?_
    refine At.then ?_
    refine At.seq ?_
    refine At.region ?_
    refine L.mv rfl rfl ?_
    refine L.op rfl (o_call rfl rfl rfl hE told_nil (Ent.refl _) ?_)
    rintro v m ⟨rfl, rfl⟩
    refine At.app0 ?_
    refine L.mv rfl rfl ?_
    refine L.ex rfl rfl rfl ?_
    refine L.ex rfl rfl rfl ?_
    refine L.as rfl rfl ?_
    refine L.as rfl rfl ?_
    refine L.nil ?_
    refine At.then ?_
    refine At.seq ?_
    refine At.region ?_
    refine L.mv rfl rfl ?_
    refine L.mv rfl rfl ?_
    refine L.mv rfl rfl ?_
    refine L.as rfl rfl ?_
    refine L.as rfl rfl ?_
    refine L.as rfl rfl ?_
    refine L.nil ?_
    refine At.then ?_
    refine At.ret ?_
    exact At.ret3 [_] rfl rfl rfl rfl (.inl ⟨hc0, bv, rfl, rfl⟩) (Ent.cons (Ent.drop.trans Ent.drop))
  ·
    refine At.region ?_
    refine L.val rfl (ev_loadN (vs := [.int .i64 dl, .slice A' ns.length c']) rfl rfl rfl rfl) (rowAll rfl) ?_
    refine L.op rfl (o_give rfl rfl rfl hE (fk_encode dl ns A' c') (nodesOwn.at (.tail (.head)) hN.i64s) ?_)
    rintro v m hv
    obtain ⟨b, rfl, rfl⟩ : ∃ b, v = .tuple #[.slice none 0 0, .iface 95 (.pointer (some ⟨b, 0, none⟩))] ∧ m = [blk b 100 #[.int .i64 (FK.chk ⟨dl, ns⟩).1, .int .i64 (FK.chk ⟨dl, ns⟩).2]] := hv.elim (fun h => absurd h.1 hc0) fun h => h.2
    refine At.app1 ?_
    refine L.mv rfl rfl ?_
    refine L.ex rfl rfl rfl ?_
    refine L.ex rfl rfl rfl ?_
    refine L.as rfl rfl ?_
    refine L.as rfl rfl ?_
    refine L.nil ?_
    refine At.then ?_
    refine At.seq ?_
    refine At.region ?_
    refine L.val rfl (ev_loadN (vs := [.int .i64 dl, .slice A' ns.length c']) rfl rfl rfl rfl) (rowAll rfl) ?_
    refine L.op rfl (o_call rfl rfl rfl hE (turn_does dl A' c' ns) (Ent.sel (.tail (.tail (.head)))) ?_)
    rintro v m ⟨rfl, rfl⟩
    refine At.app0 ?_
    refine L.nil ?_
    refine At.then ?_
    refine At.seq ?_
    refine At.region ?_
    refine L.mv rfl rfl ?_
    refine L.op rfl (o_call rfl rfl rfl hE (told_fault b _ _) (Ent.sel .head) ?_)
    rintro v m ⟨rfl, rfl⟩
    refine At.app1 ?_
    refine L.mv rfl rfl ?_
    refine L.ex rfl rfl rfl ?_
    refine L.ex rfl rfl rfl ?_
    refine L.as rfl rfl ?_
    refine L.as rfl rfl ?_
    refine L.nil ?_
    refine At.then ?_
    refine At.seq ?_
    refine At.region ?_
    refine L.mv rfl rfl ?_
    refine L.mv rfl rfl ?_
    refine L.mv rfl rfl ?_
    refine L.as rfl rfl ?_
    refine L.as rfl rfl ?_
    refine L.as rfl rfl ?_
    refine L.nil ?_
    refine At.then ?_
    refine At.ret ?_
    exact At.ret3 [] rfl rfl rfl rfl (.inr ⟨hc0, rfl, rfl⟩) (Ent.drop.trans (Ent.drop.trans Ent.drop))

theorem refCheck_gives (f : FK.Flow) (A : Option Addr) (c : Nat) : Gives Tryd.prog Good 8 [.agg #[.int .i64 f.deadline, .slice A f.nodes.length c]].toArray (fun w => NodesAt w w.heap.size A c f.nodes)
    fun v m => v = .tuple #[.int .i64 (FK.chk f).1, .int .i64 (FK.chk f).2] ∧ m = [] :=
  Gives.of_calls fun _ w _ _ hN => ref_Check_calls w w.heap.size A c f (Nat.le_refl _) hN

set_option maxRecDepth 10000 in
theorem ref_encode (dl : Int) (ns : List FK.Node) (A : Option Addr) (c : Nat) : Gives Tryd.prog Good 15 [.agg #[.int .i64 dl, .slice A ns.length c]].toArray (fun w => NodesAt w w.heap.size A c ns) (EncPost ⟨dl, ns⟩) := by
  refine Gives.body Tryd.func15 rfl rfl fun E w0 hE h0 hN => ?_
  refine At.seq ?_
  refine At.region ?_
  refine L.op rfl (o_box rfl rfl fun b1 => ?_)
  refine L.as rfl rfl ?_
  refine L.as rfl rfl ?_
  refine L.as rfl rfl ?_
  refine L.nil ?_
  refine At.then ?_
  refine At.seq ?_
  refine At.region ?_
  refine L.val rfl (ev_loadN (vs := [.int .i64 dl, .slice A ns.length c]) rfl rfl rfl rfl) (rowAll rfl) ?_
  refine L.op rfl (o_give rfl rfl rfl hE (refCheck_gives ⟨dl, ns⟩ A c) (nodesLater (.tail (.head)) h0 hN (Nat.le_refl _)) ?_)
  rintro v m ⟨rfl, rfl⟩
  refine At.app0 ?_
  refine L.mv rfl rfl ?_
  refine L.ex rfl rfl rfl ?_
  refine L.ex rfl rfl rfl ?_
  refine L.as rfl rfl ?_
  refine L.as rfl rfl ?_
  refine L.nil ?_
  refine At.then ?_
  refine At.seq ?_
  refine At.seq ?_
  refine At.region ?_
  refine L.mv rfl rfl ?_
  refine L.pure rfl (ev_neq rfl rfl rfl) ?_
  refine L.nil ?_
  refine At.then ?_
  refine At.condD rfl (fun c13 => ?_) (fun c13 => ?_)
  ·
    refine At.seq ?_
    refine At.region ?_
    refine L.mv rfl rfl ?_
    refine L.mv rfl rfl ?_
    refine L.as rfl rfl ?_
    refine L.as rfl rfl ?_
    refine L.as rfl rfl ?_
    refine L.nil ?_
    refine At.then ?_
    refine At.ret ?_
    refine At.thenRet ?_
    exact At.ret3 [] rfl rfl rfl rfl (.inr ⟨c13, rfl, rfl⟩) Ent.drop
  ·
    have hc0 : (FK.chk ⟨dl, ns⟩).1 = 0 := by omega
    obtain ⟨d, hd, hd1, hl, ho⟩ := Fit.enc (FK.chk_zero hc0)
    simp only at hd hl ho
    subst hd
    refine At.skip ?_
    refine At.then ?_
    refine At.seq ?_
    refine At.region ?_
    refine L.val rfl (ev_loadN (vs := [.int .i64 d, .slice A ns.length c]) rfl rfl rfl rfl) (rowAll rfl) ?_
    refine L.op rfl (o_give rfl rfl rfl hE (refEncode_gives d A c ns hd1 hl ho) (nodesLater (.tail (.head)) h0 hN (Nat.le_refl _)) ?_)
    rintro v m rfl
    refine At.app1 ?_
    refine L.as rfl rfl ?_
    refine L.as rfl rfl ?_
    refine L.as rfl rfl ?_
    refine L.nil ?_
    refine At.then ?_
    refine At.ret ?_
    exact At.ret3 [_] rfl rfl rfl rfl (.inl ⟨hc0, _, rfl, rfl⟩) (Ent.cons Ent.drop)
end Go.Proofs.YtagkobkmaigfcaaDoor
