/- The walks of sameInts, sameFlows, reads. -/
import Derived.Test.YtagkobkmaigfcaaDoorRefDec
import Derived.Test.YtagkobkmaigfcaaDoorSlT
namespace Go.Proofs.YtagkobkmaigfcaaDoor
open Go Go.RowKit Go.SL
variable {G : Env → Prop}

set_option maxRecDepth 10000 in
theorem sameInts_true (A A' : Option Addr) (c c' : Nat) (xs : List Int) : Gives Tryd.prog G 57 [.slice A xs.length c, .slice A' xs.length c'].toArray (fun w => IntsAt w w.heap.size A c xs ∧ IntsAt w w.heap.size A' c' xs) fun v m => v = .bool true ∧ m = [] := by
  refine Gives.body Tryd.func57 rfl rfl fun E w0 hE h0 hN => ?_
  obtain ⟨hA, hB⟩ := hN
  have hc1 := hA.len
  have hc2 := hA.cap
  refine At.seq ?_
  refine At.region ?_
  refine L.as rfl rfl ?_
  refine L.nil ?_
  refine At.then ?_
  refine At.seq ?_
  refine At.seq ?_
  refine At.region ?_
  refine L.mv rfl rfl ?_
  refine L.pure rfl (ev_lenS rfl rfl) ?_
  refine L.mv rfl rfl ?_
  refine L.pure rfl (ev_lenS rfl rfl) ?_
  refine L.pure rfl (ev_neq (r := false) rfl rfl (by simp)) ?_
  refine L.nil ?_
  refine At.then ?_
  refine At.condF rfl ?_
  refine At.skip ?_
  refine At.then ?_
  refine At.seq ?_
  refine At.seq ?_
  refine At.region ?_
  refine L.as rfl rfl ?_
  refine L.nil ?_
  refine At.then ?_
  refine At.block ?_
  refine At.loop (X := Nat) (fun k => [(5, .int .i64 k), (0, .slice A xs.length c), (1, .slice A' xs.length c')]) (fun _ => [old E w0]) (fun k => k ≤ xs.length) (fun k => xs.length - k) 0 (by omega) ⟨rfl, rfl, rfl, trivial⟩ (Ent.refl _) ?_
  intro k hk
  refine At.seq ?_
  refine At.seq ?_
  refine At.region ?_
  refine L.mv rfl rfl ?_
  refine L.mv rfl rfl ?_
  refine L.pure rfl (ev_lenS rfl rfl) ?_
  refine L.pure rfl (ev_lss rfl rfl rfl) ?_
  refine L.nil ?_
  refine At.then ?_
  refine At.condD rfl (fun c14 => ?_) (fun c14 => ?_)
  ·
    have hlt : k < xs.length := by omega
    obtain ⟨b, o, rfl, hb, hcell⟩ := hA.cells (by omega)
    obtain ⟨b', o', rfl, hb', hcell'⟩ := hB.cells (by omega)
    obtain ⟨x, hx⟩ : ∃ x, xs[k]? = some x := ⟨xs[k], by simp [hlt]⟩
    refine At.skip ?_
    refine At.then ?_
    refine At.seq ?_
    refine At.block ?_
    refine At.seq ?_
    refine Dr.start rfl ?_
    refine Dr.p 0 rfl rfl (by kernel_rfl) (ev_move rfl) ?_
    refine Dr.p 1 rfl rfl (by kernel_rfl) (ev_move rfl) ?_
    refine Dr.p 2 rfl rfl (by kernel_rfl) (ev_ixN (z := 1) rfl rfl rfl rfl hlt) ?_
    refine Dr.ld 3 rfl rfl (by kernel_rfl) (ev_load1 rfl rfl) (cellOld .head h0 (by simpa using hcell k x hx)) ?_
    refine Dr.p 4 rfl rfl (by kernel_rfl) (ev_move rfl) ?_
    refine Dr.p 5 rfl rfl (by kernel_rfl) (ev_move rfl) ?_
    refine Dr.p 6 rfl rfl (by kernel_rfl) (ev_ixN (z := 1) rfl rfl rfl rfl hlt) ?_
    refine Dr.ld 7 rfl rfl (by kernel_rfl) (ev_load1 rfl rfl) (cellOld .head h0 (by simpa using hcell' k x hx)) ?_
    refine Dr.p 8 rfl rfl (by kernel_rfl) (ev_neq (r := false) rfl rfl (by simp)) ?_
    refine Dr.done (by kernel_rfl) ?_
    refine At.then ?_
    refine At.condF rfl ?_
    refine At.skip ?_
    refine At.inBlock (At.then ?_)
    refine At.region ?_
    refine L.mv rfl rfl ?_
    refine L.pure rfl (ev_add rfl rfl (w64 (by omega))) ?_
    refine L.as rfl rfl ?_
    refine L.nil ?_
    exact At.round (k + 1) (by omega) (by omega) ⟨rfl, rfl, rfl, trivial⟩ (Ent.refl _)
  ·
    refine At.exit ?_
    refine At.thenExit (At.roundExit (At.inBlockHit (At.then ?_)))
    refine At.seq ?_
    refine At.region ?_
    refine L.as rfl rfl ?_
    refine L.nil ?_
    refine At.then ?_
    refine At.ret ?_
    exact At.ret1 [] rfl rfl ⟨rfl, rfl⟩ (Ent.refl _)

set_option maxRecDepth 10000 in
theorem sameFlows_true (dl : Int) (A A' : Option Addr) (c c' : Nat) (ns : List FK.Node) : Gives Tryd.prog G 35 [.agg #[.int .i64 dl, .slice A ns.length c], .agg #[.int .i64 dl, .slice A' ns.length c']].toArray (fun w => NodesAt w w.heap.size A c ns ∧ NodesAt w w.heap.size A' c' ns) fun v m => v = .bool true ∧ m = [] := by
  refine Gives.body Tryd.func35 rfl rfl fun E w0 hE h0 hN => ?_
  obtain ⟨hA, hB⟩ := hN
  have hc1 := hA.len
  have hc2 := hA.cap
  refine At.seq ?_
  refine At.region ?_
  refine L.op rfl (o_box rfl rfl fun b2 => ?_)
  refine L.op rfl (o_box rfl rfl fun b3 => ?_)
  refine L.as rfl rfl ?_
  refine L.nil ?_
  refine At.then ?_
  refine At.seq ?_
  refine At.seq ?_
  refine At.region ?_
  refine L.fa 0 rfl rfl rfl ?_
  refine L.ld rfl rfl rfl rfl ?_
  refine L.fa 0 rfl rfl rfl ?_
  refine L.ld rfl rfl rfl rfl ?_
  refine L.pure rfl (ev_neq (r := false) rfl rfl (by simp)) ?_
  refine L.mv rfl rfl ?_
  refine L.on rfl rfl rfl (L.vala rfl (ev_field (off := 1) rfl rfl) (fun _ _ => trivial) ?_)
  refine L.on rfl rfl rfl (L.vala rfl (ev_load1 rfl rfl) (cellIs rfl) ?_)
  refine L.on rfl rfl rfl (L.vala rfl (ev_lenS rfl rfl) (fun _ _ => trivial) ?_)
  refine L.on rfl rfl rfl (L.vala rfl (ev_field (off := 1) rfl rfl) (fun _ _ => trivial) ?_)
  refine L.on rfl rfl rfl (L.vala rfl (ev_load1 rfl rfl) (cellIs rfl) ?_)
  refine L.on rfl rfl rfl (L.vala rfl (ev_lenS rfl rfl) (fun _ _ => trivial) ?_)
  refine L.on rfl rfl rfl (L.vala rfl (ev_neq (r := false) rfl rfl (by simp)) (fun _ _ => trivial) ?_)
  refine L.pure rfl (ev_pick rfl rfl rfl) ?_
  refine L.nil ?_
  refine At.then ?_
  refine At.condF rfl ?_
  refine At.skip ?_
  refine At.then ?_
  refine At.seq ?_
  refine At.seq ?_
  refine At.region ?_
  refine L.as rfl rfl ?_
  refine L.nil ?_
  refine At.then ?_
  refine At.block ?_
  refine At.loop (X := Nat) (fun k => [(5, .int .i64 k), (2, .pointer (some ⟨b2, 0, none⟩)), (3, .pointer (some ⟨b3, 0, none⟩))]) (fun _ => [blk b2 24 #[.int .i64 dl, .slice A ns.length c], blk b3 24 #[.int .i64 dl, .slice A' ns.length c'], old E w0]) (fun k => k ≤ ns.length) (fun k => ns.length - k) 0 (by omega) ⟨rfl, rfl, rfl, trivial⟩ (Ent.perm (List.Perm.swap _ _ _)) ?_
  intro k hk
  refine At.seq ?_
  refine At.seq ?_
  refine At.region ?_
  refine L.mv rfl rfl ?_
  refine L.fa 1 rfl rfl rfl ?_
  refine L.ld rfl rfl rfl rfl ?_
  refine L.pure rfl (ev_lenS rfl rfl) ?_
  refine L.pure rfl (ev_lss rfl rfl rfl) ?_
  refine L.nil ?_
  refine At.then ?_
  refine At.condD rfl (fun c27 => ?_) (fun c27 => ?_)
  ·
    have hlt : k < ns.length := by omega
    obtain ⟨b, o, rfl, hb, hcell⟩ := hA.cells (by omega)
    obtain ⟨b', o', rfl, hb', hcell'⟩ := hB.cells (by omega)
    obtain ⟨nd, hnd⟩ : ∃ nd, ns[k]? = some nd := ⟨ns[k], by simp [hlt]⟩
    obtain ⟨A6, c6, hrow, hints⟩ := NodeAt.row (hcell k nd hnd)
    obtain ⟨A7, c7, hrow', hints'⟩ := NodeAt.row (hcell' k nd hnd)
    refine At.skip ?_
    refine At.then ?_
    refine At.seq ?_
    refine At.block ?_
    refine At.seq ?_
    refine At.region ?_
    refine L.fa 1 rfl rfl rfl ?_
    refine L.ld rfl rfl rfl rfl ?_
    refine L.mv rfl rfl ?_
    refine L.pure rfl (ev_ixN (z := 7) rfl rfl rfl rfl hlt) ?_
    refine L.val rfl (ev_loadN (vs := nodeVals nd A6 c6) rfl rfl rfl rfl) (rowOld (.tail (.tail (.head))) h0 hrow) ?_
    refine L.op rfl (o_alloc (z := .agg #[.int .i64 0, .int .i64 0, .int .i64 0, .int .i64 0, .int .i64 0, .int .i64 0, .slice none 0 0]) rfl rfl fun b6 => ?_)
    refine L.op rfl (o_storeN rfl (m := 7) (vs := nodeVals nd A6 c6) rfl rfl rfl rfl (by simp [nodeVals, Value.oneCell']) (by simp [nodeVals, Value.cells]) ?_)
    simp only [Value.cells, setRow_all]
    refine L.nil ?_
    refine At.then ?_
    refine At.seq ?_
    refine At.region ?_
    refine L.fa 1 rfl rfl rfl ?_
    refine L.ld rfl rfl rfl rfl ?_
    refine L.mv rfl rfl ?_
    refine L.pure rfl (ev_ixN (z := 7) rfl rfl rfl rfl hlt) ?_
    refine L.val rfl (ev_loadN (vs := nodeVals nd A7 c7) rfl rfl rfl rfl) (rowOld (.tail (.tail (.tail (.head)))) h0 hrow') ?_
    refine L.op rfl (o_alloc (z := .agg #[.int .i64 0, .int .i64 0, .int .i64 0, .int .i64 0, .int .i64 0, .int .i64 0, .slice none 0 0]) rfl rfl fun b7 => ?_)
    refine L.op rfl (o_storeN rfl (m := 7) (vs := nodeVals nd A7 c7) rfl rfl rfl rfl (by simp [nodeVals, Value.oneCell']) (by simp [nodeVals, Value.cells]) ?_)
    simp only [Value.cells, setRow_all]
    refine L.nil ?_
    refine At.then ?_
    refine At.seq ?_
    refine At.region ?_
    refine L.fa 6 rfl rfl rfl ?_
    refine L.ld rfl rfl rfl rfl ?_
    refine L.fa 6 rfl rfl rfl ?_
    refine L.ld rfl rfl rfl rfl ?_
    refine L.op rfl (o_give rfl rfl rfl hE (sameInts_true A6 A7 c6 c7 nd.after) (oldAt (.tail (.tail (.tail (.tail (.head))))) h0 fun w hbel => ⟨(hints.keep hbel.to_same).more hbel.size, (hints'.keep hbel.to_same).more hbel.size⟩) ?_)
    rintro v m ⟨rfl, rfl⟩
    refine At.app0 ?_
    refine L.as rfl rfl ?_
    refine L.nil ?_
    refine At.then ?_
    refine At.seq ?_
    refine At.region ?_
    refine L.mv rfl rfl ?_
    refine L.pure rfl (ev_not rfl rfl) ?_
    refine L.mv rfl rfl ?_
    refine L.on rfl rfl rfl (L.vala rfl (ev_field (off := 0) rfl rfl) (fun _ _ => trivial) ?_)
    refine L.on rfl rfl rfl (L.vala rfl (ev_load1 rfl rfl) (cellIs rfl) ?_)
    refine L.on rfl rfl rfl (L.vala rfl (ev_field (off := 0) rfl rfl) (fun _ _ => trivial) ?_)
    refine L.on rfl rfl rfl (L.vala rfl (ev_load1 rfl rfl) (cellIs rfl) ?_)
    refine L.on rfl rfl rfl (L.vala rfl (ev_neq (r := false) rfl rfl (by simp)) (fun _ _ => trivial) ?_)
    refine L.pure rfl (ev_pick rfl rfl rfl) ?_
    refine L.mv rfl rfl ?_
    refine L.on rfl rfl rfl (L.vala rfl (ev_field (off := 1) rfl rfl) (fun _ _ => trivial) ?_)
    refine L.on rfl rfl rfl (L.vala rfl (ev_load1 rfl rfl) (cellIs rfl) ?_)
    refine L.on rfl rfl rfl (L.vala rfl (ev_field (off := 1) rfl rfl) (fun _ _ => trivial) ?_)
    refine L.on rfl rfl rfl (L.vala rfl (ev_load1 rfl rfl) (cellIs rfl) ?_)
    refine L.on rfl rfl rfl (L.vala rfl (ev_neq (r := false) rfl rfl (by simp)) (fun _ _ => trivial) ?_)
    refine L.pure rfl (ev_pick rfl rfl rfl) ?_
    refine L.mv rfl rfl ?_
    refine L.on rfl rfl rfl (L.vala rfl (ev_field (off := 2) rfl rfl) (fun _ _ => trivial) ?_)
    refine L.on rfl rfl rfl (L.vala rfl (ev_load1 rfl rfl) (cellIs rfl) ?_)
    refine L.on rfl rfl rfl (L.vala rfl (ev_field (off := 2) rfl rfl) (fun _ _ => trivial) ?_)
    refine L.on rfl rfl rfl (L.vala rfl (ev_load1 rfl rfl) (cellIs rfl) ?_)
    refine L.on rfl rfl rfl (L.vala rfl (ev_neq (r := false) rfl rfl (by simp)) (fun _ _ => trivial) ?_)
    refine L.pure rfl (ev_pick rfl rfl rfl) ?_
    refine L.mv rfl rfl ?_
    refine L.on rfl rfl rfl (L.vala rfl (ev_field (off := 3) rfl rfl) (fun _ _ => trivial) ?_)
    refine L.on rfl rfl rfl (L.vala rfl (ev_load1 rfl rfl) (cellIs rfl) ?_)
    refine L.on rfl rfl rfl (L.vala rfl (ev_field (off := 3) rfl rfl) (fun _ _ => trivial) ?_)
    refine L.on rfl rfl rfl (L.vala rfl (ev_load1 rfl rfl) (cellIs rfl) ?_)
    refine L.on rfl rfl rfl (L.vala rfl (ev_neq (r := false) rfl rfl (by simp)) (fun _ _ => trivial) ?_)
    refine L.pure rfl (ev_pick rfl rfl rfl) ?_
    refine L.mv rfl rfl ?_
    refine L.on rfl rfl rfl (L.vala rfl (ev_field (off := 4) rfl rfl) (fun _ _ => trivial) ?_)
    refine L.on rfl rfl rfl (L.vala rfl (ev_load1 rfl rfl) (cellIs rfl) ?_)
    refine L.on rfl rfl rfl (L.vala rfl (ev_field (off := 4) rfl rfl) (fun _ _ => trivial) ?_)
    refine L.on rfl rfl rfl (L.vala rfl (ev_load1 rfl rfl) (cellIs rfl) ?_)
    refine L.on rfl rfl rfl (L.vala rfl (ev_neq (r := false) rfl rfl (by simp)) (fun _ _ => trivial) ?_)
    refine L.pure rfl (ev_pick rfl rfl rfl) ?_
    refine L.mv rfl rfl ?_
    refine L.on rfl rfl rfl (L.vala rfl (ev_field (off := 5) rfl rfl) (fun _ _ => trivial) ?_)
    refine L.on rfl rfl rfl (L.vala rfl (ev_load1 rfl rfl) (cellIs rfl) ?_)
    refine L.on rfl rfl rfl (L.vala rfl (ev_field (off := 5) rfl rfl) (fun _ _ => trivial) ?_)
    refine L.on rfl rfl rfl (L.vala rfl (ev_load1 rfl rfl) (cellIs rfl) ?_)
    refine L.on rfl rfl rfl (L.vala rfl (ev_neq (r := false) rfl rfl (by simp)) (fun _ _ => trivial) ?_)
    refine L.pure rfl (ev_pick rfl rfl rfl) ?_
    refine L.nil ?_
    refine At.then ?_
    refine At.condF rfl ?_
    refine At.skip ?_
    refine At.inBlock (At.then ?_)
    refine At.region ?_
    refine L.mv rfl rfl ?_
    refine L.pure rfl (ev_add rfl rfl (w64 (by omega))) ?_
    refine L.as rfl rfl ?_
    refine L.nil ?_
    exact At.round (k + 1) (by omega) (by omega) ⟨rfl, rfl, rfl, trivial⟩ (Ent.drop.trans Ent.drop)
  ·
    refine At.exit ?_
    refine At.thenExit (At.roundExit (At.inBlockHit (At.then ?_)))
    refine At.seq ?_
    refine At.region ?_
    refine L.as rfl rfl ?_
    refine L.nil ?_
    refine At.then ?_
    refine At.ret ?_
    exact At.ret1 [] rfl rfl ⟨rfl, rfl⟩ (Ent.drop.trans Ent.drop)

theorem DecPost.ok {bs : List UInt8} {p : HP} {v : Value} {m : List HP} {f : FK.Flow} (h : DecPost bs p v m) (hd : FK.dec bs = .ok f) : ∃ A' c', (∀ nd ∈ f.nodes, Small nd) ∧ v = .tuple #[.agg #[.int .i64 f.deadline, .slice A' f.nodes.length c'], .int .i64 0, .int .i64 (-1)] ∧ m = [nodesOwn (.slice A' f.nodes.length c') f.nodes, p] := by
  rcases h with ⟨f', A', c', h1, h2, h3, h4⟩ | ⟨e, a, h1, _⟩
  · rw [hd] at h1
    injection h1 with h1
    subst h1
    exact ⟨A', c', h2, h3, h4⟩
  · rw [hd] at h1; cases h1
theorem DecPost.bad {bs : List UInt8} {p : HP} {v : Value} {m : List HP} {e a : Int} (h : DecPost bs p v m) (hd : FK.dec bs = .error (e, a)) : e ≠ 0 ∧ v = .tuple #[.agg #[.int .i64 0, .slice none 0 0], .int .i64 e, .int .i64 a] ∧ m = [p] := by
  rcases h with ⟨f', A', c', h1, h2, h3, h4⟩ | ⟨e, a, h1, h2, h3, h4⟩
  · rw [hd] at h1; cases h1
  · rw [hd] at h1
    injection h1 with h1
    injection h1 with h1 h5
    subst h1; subst h5
    exact ⟨h2, h3, h4⟩

theorem nodesAt_nil (w : World) (B : Nat) : NodesAt w B none 0 [] := ⟨by simp, by omega, fun h => by simp at h⟩

set_option maxRecDepth 10000 in
theorem reads_true {p : HP} {A : Option Addr} {c : Nat} {bs : List UInt8} (hp : Reads p A bs) (hl : bs.length ≤ 1099511627776) : Does Tryd.prog Good 16 [.slice A bs.length c].toArray [p] fun v m => v = .bool true ∧ m = [p] := by
  refine Does.body Tryd.func16 rfl rfl fun E fr hE => ?_
  refine At.app1 ?_
  refine At.seq ?_
  refine At.region ?_
  refine L.as rfl rfl ?_
  refine L.nil ?_
  refine At.then ?_
  refine At.seq ?_
  by_cases hd : ∃ f, FK.dec bs = .ok f
  ·
    obtain ⟨f, hd⟩ := hd
    refine At.region ?_
    refine L.mv rfl rfl ?_
    refine L.op rfl (o_call rfl rfl rfl hE (plain_decode hp hl) (Ent.refl _) ?_)
    rintro v m hv
    obtain ⟨A1, c1, hsm, rfl, rfl⟩ := hv.ok hd
    refine At.app2 ?_
    refine L.mv rfl rfl ?_
    refine L.ex rfl rfl rfl ?_
    refine L.ex rfl rfl rfl ?_
    refine L.ex rfl rfl rfl ?_
    refine L.op rfl (o_alloc (z := .agg #[.int .i64 0, .slice none 0 0]) rfl rfl fun b3 => ?_)
    refine L.op rfl (o_storeN rfl (m := 2) (vs := [.int .i64 f.deadline, .slice A1 f.nodes.length c1]) rfl rfl rfl rfl (by simp [Value.oneCell']) (by simp [Value.cells]) ?_)
    refine L.as rfl rfl ?_
    refine L.as rfl rfl ?_
    refine L.nil ?_
    refine At.then ?_
    refine At.seq ?_
    refine At.region ?_
    refine L.mv rfl rfl ?_
    refine L.op rfl (o_call rfl rfl rfl hE (ref_decode hp hl) (Ent.sel (.tail (.tail (.head)))) ?_)
    rintro v m hv
    obtain ⟨A2, c2, _, rfl, rfl⟩ := hv.ok hd
    refine At.app2 ?_
    refine L.mv rfl rfl ?_
    refine L.ex rfl rfl rfl ?_
    refine L.ex rfl rfl rfl ?_
    refine L.ex rfl rfl rfl ?_
    refine L.op rfl (o_alloc (z := .agg #[.int .i64 0, .slice none 0 0]) rfl rfl fun b6 => ?_)
    refine L.op rfl (o_storeN rfl (m := 2) (vs := [.int .i64 f.deadline, .slice A2 f.nodes.length c2]) rfl rfl rfl rfl (by simp [Value.oneCell']) (by simp [Value.cells]) ?_)
    refine L.as rfl rfl ?_
    refine L.as rfl rfl ?_
    refine L.nil ?_
    refine At.then ?_
    refine At.seq ?_
    refine At.region ?_
    refine L.val rfl (ev_loadN (vs := [.int .i64 f.deadline, .slice A1 f.nodes.length c1]) rfl rfl rfl rfl) (rowAll rfl) ?_
    refine L.val rfl (ev_loadN (vs := [.int .i64 f.deadline, .slice A2 f.nodes.length c2]) rfl rfl rfl rfl) (rowAll rfl) ?_
    refine L.op rfl (o_give rfl rfl rfl hE (sameFlows_true f.deadline A1 A2 c1 c2 f.nodes) (fun w hw => ⟨nodesOwn.at (.tail (.tail (.tail (.tail (.head))))) (fun nd hnd => (hsm nd hnd).i64) w hw, nodesOwn.at (.tail (.head)) (fun nd hnd => (hsm nd hnd).i64) w hw⟩) ?_)
    rintro v m ⟨rfl, rfl⟩
    refine At.app0 ?_
    refine L.as rfl rfl ?_
    refine L.nil ?_
    refine At.then ?_
    refine At.seq ?_
    refine At.region ?_
    refine L.mv rfl rfl ?_
    refine L.mv rfl rfl ?_
    refine L.on rfl rfl rfl (L.vala rfl (ev_move rfl) (fun _ _ => trivial) ?_)
    refine L.on rfl rfl rfl (L.vala rfl (ev_move rfl) (fun _ _ => trivial) ?_)
    refine L.on rfl rfl rfl (L.vala rfl (ev_eql (r := true) rfl rfl (by simp)) (fun _ _ => trivial) ?_)
    refine L.pure rfl (ev_pick rfl rfl rfl) ?_
    refine L.mv rfl rfl ?_
    refine L.on rfl rfl rfl (L.vala rfl (ev_move rfl) (fun _ _ => trivial) ?_)
    refine L.on rfl rfl rfl (L.vala rfl (ev_move rfl) (fun _ _ => trivial) ?_)
    refine L.on rfl rfl rfl (L.vala rfl (ev_eql (r := true) rfl rfl (by simp)) (fun _ _ => trivial) ?_)
    refine L.pure rfl (ev_pick rfl rfl rfl) ?_
    refine L.as rfl rfl ?_
    refine L.nil ?_
    refine At.then ?_
    refine At.ret ?_
    exact At.ret1 [p] rfl rfl ⟨rfl, rfl⟩ (Ent.drop.trans (Ent.drop.trans (Ent.cons (Ent.drop.trans Ent.drop))))
  ·
    obtain ⟨e, a, hd⟩ : ∃ e a, FK.dec bs = .error (e, a) := by
      cases h : FK.dec bs with
      | ok f => exact absurd ⟨f, h⟩ hd
      | error x => exact ⟨x.1, x.2, rfl⟩
    refine At.region ?_
    refine L.mv rfl rfl ?_
    refine L.op rfl (o_call rfl rfl rfl hE (plain_decode hp hl) (Ent.refl _) ?_)
    rintro v m hv
    obtain ⟨he0, rfl, rfl⟩ := hv.bad hd
    refine At.app1 ?_
    refine L.mv rfl rfl ?_
    refine L.ex rfl rfl rfl ?_
    refine L.ex rfl rfl rfl ?_
    refine L.ex rfl rfl rfl ?_
    refine L.op rfl (o_alloc (z := .agg #[.int .i64 0, .slice none 0 0]) rfl rfl fun b3 => ?_)
    refine L.op rfl (o_storeN rfl (m := 2) (vs := [.int .i64 0, .slice none 0 0]) rfl rfl rfl rfl (by simp [Value.oneCell']) (by simp [Value.cells]) ?_)
    refine L.as rfl rfl ?_
    refine L.as rfl rfl ?_
    refine L.nil ?_
    refine At.then ?_
    refine At.seq ?_
    refine At.region ?_
    refine L.mv rfl rfl ?_
    refine L.op rfl (o_call rfl rfl rfl hE (ref_decode hp hl) (Ent.sel (.tail (.head))) ?_)
    rintro v m hv
    obtain ⟨_, rfl, rfl⟩ := hv.bad hd
    refine At.app1 ?_
    refine L.mv rfl rfl ?_
    refine L.ex rfl rfl rfl ?_
    refine L.ex rfl rfl rfl ?_
    refine L.ex rfl rfl rfl ?_
    refine L.op rfl (o_alloc (z := .agg #[.int .i64 0, .slice none 0 0]) rfl rfl fun b6 => ?_)
    refine L.op rfl (o_storeN rfl (m := 2) (vs := [.int .i64 0, .slice none 0 0]) rfl rfl rfl rfl (by simp [Value.oneCell']) (by simp [Value.cells]) ?_)
    refine L.as rfl rfl ?_
    refine L.as rfl rfl ?_
    refine L.nil ?_
    refine At.then ?_
    refine At.seq ?_
    refine At.region ?_
    refine L.val rfl (ev_loadN (vs := [.int .i64 0, .slice none 0 0]) rfl rfl rfl rfl) (rowAll rfl) ?_
    refine L.val rfl (ev_loadN (vs := [.int .i64 0, .slice none 0 0]) rfl rfl rfl rfl) (rowAll rfl) ?_
    refine L.op rfl (o_give rfl rfl rfl hE (sameFlows_true 0 none none 0 0 []) (fun w hw => ⟨nodesAt_nil _ _, nodesAt_nil _ _⟩) ?_)
    rintro v m ⟨rfl, rfl⟩
    refine At.app0 ?_
    refine L.as rfl rfl ?_
    refine L.nil ?_
    refine At.then ?_
    refine At.seq ?_
    refine At.region ?_
    refine L.mv rfl rfl ?_
    refine L.mv rfl rfl ?_
    refine L.on rfl rfl rfl (L.vala rfl (ev_move rfl) (fun _ _ => trivial) ?_)
    refine L.on rfl rfl rfl (L.vala rfl (ev_move rfl) (fun _ _ => trivial) ?_)
    refine L.on rfl rfl rfl (L.vala rfl (ev_eql (r := true) rfl rfl (by simp)) (fun _ _ => trivial) ?_)
    refine L.pure rfl (ev_pick rfl rfl rfl) ?_
    refine L.mv rfl rfl ?_
    refine L.on rfl rfl rfl (L.vala rfl (ev_move rfl) (fun _ _ => trivial) ?_)
    refine L.on rfl rfl rfl (L.vala rfl (ev_move rfl) (fun _ _ => trivial) ?_)
    refine L.on rfl rfl rfl (L.vala rfl (ev_eql (r := true) rfl rfl (by simp)) (fun _ _ => trivial) ?_)
    refine L.pure rfl (ev_pick rfl rfl rfl) ?_
    refine L.as rfl rfl ?_
    refine L.nil ?_
    refine At.then ?_
    refine At.ret ?_
    exact At.ret1 [p] rfl rfl ⟨rfl, rfl⟩ (Ent.drop.trans (Ent.cons Ent.drop))
end Go.Proofs.YtagkobkmaigfcaaDoor
