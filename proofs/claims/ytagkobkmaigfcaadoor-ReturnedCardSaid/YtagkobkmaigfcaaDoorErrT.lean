/- errors.Is at a fault and at a number; plain.Told. -/
import Derived.Test.YtagkobkmaigfcaaDoorErr
namespace Go.Proofs.YtagkobkmaigfcaaDoor
open Go Go.RowKit Go.SL Go.Extern

set_option maxRecDepth 10000
set_option maxHeartbeats 4000000

theorem unwrap_does {G : Env → Prop} (b : Nat) (e a : Value) : Does Tryd.prog G 123 [.pointer (some ⟨b, 0, none⟩)].toArray [blk b 100 #[e, a]] fun v m => v = .iface 26 e ∧ m = [blk b 100 #[e, a]] := by
  refine Does.body Tryd.func123 rfl rfl fun E fr hE => ?_
  refine At.app1 ?_
  refine At.seq ?_
  refine At.region ?_
  refine L.as rfl rfl ?_
  refine L.nil ?_
  refine At.then ?_
  refine At.seq ?_
  refine At.region ?_
  refine L.mv rfl rfl ?_
  refine L.nc rfl rfl ?_
  refine L.fa 0 rfl rfl rfl ?_
  refine L.ld rfl rfl rfl rfl ?_
  refine L.pure rfl (ev_iface rfl rfl rfl) ?_
  refine L.as rfl rfl ?_
  refine L.nil ?_
  refine At.then ?_
  refine At.ret ?_
  exact At.ret1 [_] rfl rfl ⟨rfl, rfl⟩ (Ent.refl _)

theorem is_errno_in (e : Int) : Does Tryd.prog Good 81 [.iface 26 (.int .i64 e), .iface 26 (.int .i64 e), .bool true].toArray [] fun v m => v = .bool true ∧ m = [] := by
  refine Does.body Tryd.func81 rfl rfl fun E fr hE => ?_
  refine At.app0 ?_
  refine At.seq ?_
  refine At.region ?_
  refine L.as rfl rfl ?_
  refine L.nil ?_
  refine At.then ?_
  refine At.block ?_
  refine At.loop (X := Unit) (fun _ => [(0, .iface 26 (.int .i64 e)), (1, .iface 26 (.int .i64 e)), (2, .bool true)]) (fun _ => fr) (fun _ => True) (fun _ => 0) () trivial ⟨rfl, rfl, rfl, trivial⟩ (Ent.refl _) ?_
  rintro _ _
  refine At.block ?_
  refine At.seq ?_
  refine At.seq ?_
  refine At.region ?_
  refine L.mv rfl rfl ?_
  refine L.mv rfl rfl ?_
  refine L.on rfl rfl rfl (L.vala rfl (ev_move rfl) (fun _ _ => trivial) ?_)
  refine L.on rfl rfl rfl (L.vala rfl (ev_move rfl) (fun _ _ => trivial) ?_)
  refine L.on rfl rfl rfl (L.vala rfl (ev_eqlEI (r := true) rfl rfl rfl rfl rfl rfl (by simp)) (fun _ _ => trivial) ?_)
  refine L.pure rfl (ev_pick rfl rfl rfl) ?_
  refine L.nil ?_
  refine At.then ?_
  refine At.condT rfl ?_
  refine At.seq ?_
  refine At.region ?_
  refine L.as rfl rfl ?_
  refine L.nil ?_
  refine At.then ?_
  refine At.ret ?_
  refine At.thenRet (At.inBlockRet (At.roundRet (At.inBlockRet ?_)))
  exact At.ret1 [] rfl rfl ⟨rfl, rfl⟩ (Ent.refl _)


theorem is_fault_in (b : Nat) (e : Int) (a : Value) : Does Tryd.prog Good 81 [.iface 95 (.pointer (some ⟨b, 0, none⟩)), .iface 26 (.int .i64 e), .bool true].toArray [blk b 100 #[.int .i64 e, a]] fun v m => v = .bool true ∧ m = [blk b 100 #[.int .i64 e, a]] := by
  refine Does.body Tryd.func81 rfl rfl fun E fr hE => ?_
  refine At.app1 ?_
  refine At.seq ?_
  refine At.region ?_
  refine L.as rfl rfl ?_
  refine L.nil ?_
  refine At.then ?_
  refine At.block ?_
  refine At.loop (X := Bool) (fun x => [(0, bif x then .iface 26 (.int .i64 e) else .iface 95 (.pointer (some ⟨b, 0, none⟩))), (1, .iface 26 (.int .i64 e)), (2, .bool true)]) (fun _ => blk b 100 #[.int .i64 e, a] :: fr) (fun _ => True) (fun x => bif x then 0 else 1) false trivial ⟨rfl, rfl, rfl, trivial⟩ (Ent.refl _) ?_
  rintro x _
  refine At.block ?_
  refine At.seq ?_
  refine At.seq ?_
  by_cases hx : x = true
  ·
    subst hx
    refine At.region ?_
    refine L.mv rfl rfl ?_
    refine L.mv rfl rfl ?_
    refine L.on rfl rfl rfl (L.vala rfl (ev_move rfl) (fun _ _ => trivial) ?_)
    refine L.on rfl rfl rfl (L.vala rfl (ev_move rfl) (fun _ _ => trivial) ?_)
    refine L.on rfl rfl rfl (L.vala rfl (ev_eqlEI (r := true) rfl rfl rfl rfl rfl rfl (by simp)) (fun _ _ => trivial) ?_)
    refine L.pure rfl (ev_pick rfl rfl rfl) ?_
    refine L.nil ?_
    refine At.then ?_
    refine At.condT rfl ?_
    refine At.seq ?_
    refine At.region ?_
    refine L.as rfl rfl ?_
    refine L.nil ?_
    refine At.then ?_
    refine At.ret ?_
    refine At.thenRet (At.inBlockRet (At.roundRet (At.inBlockRet ?_)))
    exact At.ret1 [_] rfl rfl ⟨rfl, rfl⟩ (Ent.refl _)
  ·
    obtain rfl : x = false := by simpa using hx
    refine At.region ?_
    refine L.mv rfl rfl ?_
    refine L.mv rfl rfl ?_
    refine L.on rfl rfl rfl (L.vala rfl (ev_move rfl) (fun _ _ => trivial) ?_)
    refine L.on rfl rfl rfl (L.vala rfl (ev_move rfl) (fun _ _ => trivial) ?_)
    refine L.on rfl rfl rfl (L.vala rfl (ev_eqlNeT rfl rfl rfl rfl) (fun _ _ => trivial) ?_)
    refine L.pure rfl (ev_pick rfl rfl rfl) ?_
    refine L.nil ?_
    refine At.then ?_
    refine At.condF rfl ?_
    refine At.skip ?_
    refine At.then ?_
    refine At.seq ?_
    refine At.seq ?_
    refine At.region ?_
    refine L.mv rfl rfl ?_
    refine L.pure rfl (ev_asINot (z := .nilIface) rfl rfl (by kernel_rfl) (by kernel_rfl)) ?_
    refine L.mv rfl rfl ?_
    refine L.ex rfl rfl rfl ?_
    refine L.ex rfl rfl rfl ?_
    refine L.as rfl rfl ?_
    refine L.as rfl rfl ?_
    refine L.nil ?_
    refine At.then ?_
    refine At.seq ?_
    refine At.region ?_
    refine L.mv rfl rfl ?_
    refine L.mv rfl rfl ?_
    refine L.off rfl rfl rfl rfl rfl rfl ?_
    refine L.off rfl rfl rfl rfl rfl rfl ?_
    refine L.off rfl rfl rfl rfl rfl rfl ?_
    refine L.pure rfl (ev_pick rfl rfl rfl) ?_
    refine L.nil ?_
    refine At.then ?_
    refine At.condF rfl ?_
    refine At.skip ?_
    refine At.then ?_
    refine At.seq ?_
    refine At.region ?_
    refine L.mv rfl rfl ?_
    refine L.nil ?_
    refine At.then ?_
    refine At.block ?_
    refine At.seq ?_
    refine At.region ?_
    refine L.pure rfl (ev_asI rfl rfl (by kernel_rfl)) ?_
    refine L.ex rfl rfl rfl ?_
    refine L.ex rfl rfl rfl ?_
    refine L.nil ?_
    refine At.then ?_
    refine At.condT rfl ?_
    refine At.seq ?_
    refine At.region ?_
    refine L.as rfl rfl ?_
    refine L.nil ?_
    refine At.then ?_
    refine At.seq ?_
    refine At.region ?_
    refine L.mv rfl rfl ?_
    refine L.op rfl (o_invoke rfl rfl rfl (mUnwrap _) rfl hE (unwrap_does b (.int .i64 e) a) (Ent.refl _) ?_)
    rintro v m ⟨rfl, rfl⟩
    refine At.app1 ?_
    refine L.as rfl rfl ?_
    refine L.nil ?_
    refine At.then ?_
    refine At.seq ?_
    refine At.region ?_
    refine L.mv rfl rfl ?_
    refine L.pure rfl (ev_eqlNil rfl rfl) ?_
    refine L.nil ?_
    refine At.then ?_
    refine At.condF rfl ?_
    refine At.skip ?_
    refine At.inBlock (At.inBlock ?_)
    exact At.round true trivial (by simp) ⟨rfl, rfl, rfl, trivial⟩ (Ent.refl _)

theorem is_errno (e : Int) : Does Tryd.prog Good 54 [.iface 26 (.int .i64 e), .iface 26 (.int .i64 e)].toArray [] fun v m => v = .bool true ∧ m = [] := by
  refine Does.body Tryd.func54 rfl rfl fun E fr hE => ?_
  refine At.app0 ?_
  refine At.seq ?_
  refine At.region ?_
  refine L.as rfl rfl ?_
  refine L.nil ?_
  refine At.then ?_
  refine At.seq ?_
  refine At.seq ?_
  refine At.region ?_
  refine L.mv rfl rfl ?_
  refine L.pure rfl (ev_eqlNil rfl rfl) ?_
  refine L.mv rfl rfl ?_
  refine L.on rfl rfl rfl (L.vala rfl (ev_move rfl) (fun _ _ => trivial) ?_)
  refine L.on rfl rfl rfl (L.vala rfl (ev_eqlNil rfl rfl) (fun _ _ => trivial) ?_)
  refine L.pure rfl (ev_pick rfl rfl rfl) ?_
  refine L.nil ?_
  refine At.then ?_
  refine At.condF rfl ?_
  refine At.skip ?_
  refine At.then ?_
  refine At.seq ?_
  refine At.region ?_
  refine L.mv rfl rfl ?_
  refine L.pure rfl (ev_ext rfl fun w _ => typeOfN _ w) ?_
  refine L.pure rfl (ev_mext rfl rfl (mComparable _) fun w _ => comparableN w) ?_
  refine L.as rfl rfl ?_
  refine L.nil ?_
  refine At.then ?_
  refine At.seq ?_
  refine At.region ?_
  refine L.mv rfl rfl ?_
  refine L.mv rfl rfl ?_
  refine L.mv rfl rfl ?_
  refine L.op rfl (o_call rfl rfl rfl hE (is_errno_in e) (Ent.refl _) ?_)
  rintro v m ⟨rfl, rfl⟩
  refine At.app0 ?_
  refine L.as rfl rfl ?_
  refine L.nil ?_
  refine At.then ?_
  refine At.ret ?_
  exact At.ret1 [] rfl rfl ⟨rfl, rfl⟩ (Ent.refl _)

theorem is_fault (b : Nat) (e : Int) (a : Value) : Does Tryd.prog Good 54 [.iface 95 (.pointer (some ⟨b, 0, none⟩)), .iface 26 (.int .i64 e)].toArray [blk b 100 #[.int .i64 e, a]] fun v m => v = .bool true ∧ m = [blk b 100 #[.int .i64 e, a]] := by
  refine Does.body Tryd.func54 rfl rfl fun E fr hE => ?_
  refine At.app1 ?_
  refine At.seq ?_
  refine At.region ?_
  refine L.as rfl rfl ?_
  refine L.nil ?_
  refine At.then ?_
  refine At.seq ?_
  refine At.seq ?_
  refine At.region ?_
  refine L.mv rfl rfl ?_
  refine L.pure rfl (ev_eqlNil rfl rfl) ?_
  refine L.mv rfl rfl ?_
  refine L.on rfl rfl rfl (L.vala rfl (ev_move rfl) (fun _ _ => trivial) ?_)
  refine L.on rfl rfl rfl (L.vala rfl (ev_eqlNil rfl rfl) (fun _ _ => trivial) ?_)
  refine L.pure rfl (ev_pick rfl rfl rfl) ?_
  refine L.nil ?_
  refine At.then ?_
  refine At.condF rfl ?_
  refine At.skip ?_
  refine At.then ?_
  refine At.seq ?_
  refine At.region ?_
  refine L.mv rfl rfl ?_
  refine L.pure rfl (ev_ext rfl fun w _ => typeOfN _ w) ?_
  refine L.pure rfl (ev_mext rfl rfl (mComparable _) fun w _ => comparableN w) ?_
  refine L.as rfl rfl ?_
  refine L.nil ?_
  refine At.then ?_
  refine At.seq ?_
  refine At.region ?_
  refine L.mv rfl rfl ?_
  refine L.mv rfl rfl ?_
  refine L.mv rfl rfl ?_
  refine L.op rfl (o_call rfl rfl rfl hE (is_fault_in b e a) (Ent.refl _) ?_)
  rintro v m ⟨rfl, rfl⟩
  refine At.app1 ?_
  refine L.as rfl rfl ?_
  refine L.nil ?_
  refine At.then ?_
  refine At.ret ?_
  exact At.ret1 [_] rfl rfl ⟨rfl, rfl⟩ (Ent.refl _)

/-! ### plain.Told -/
theorem told_nil : Does Tryd.prog Good 32 [.nilIface].toArray [] fun v m => v = .tuple #[.int .i64 0, .int .i64 (-1)] ∧ m = [] := by
  refine Does.body Tryd.func32 rfl rfl fun E fr hE => ?_
  refine At.app0 ?_
  refine At.seq ?_
  refine At.region ?_
  refine L.as rfl rfl ?_
  refine L.as rfl rfl ?_
  refine L.nil ?_
  refine At.then ?_
  refine At.seq ?_
  refine At.region ?_
  refine L.op rfl (o_alloc (z := .pointer none) rfl rfl fun b4 => ?_)
  refine L.nil ?_
  refine At.then ?_
  refine At.seq ?_
  refine At.region ?_
  refine L.op rfl (o_alloc (z := .int .i64 0) rfl rfl fun b5 => ?_)
  refine L.nil ?_
  refine At.then ?_
  refine At.seq ?_
  refine At.block ?_
  refine At.seq ?_
  refine At.region ?_
  refine L.mv rfl rfl ?_
  refine L.pure rfl (ev_eqlNil0 rfl rfl) ?_
  refine L.as rfl rfl ?_
  refine L.nil ?_
  refine At.then ?_
  refine At.condT rfl ?_
  refine At.seq ?_
  refine At.region ?_
  refine L.as rfl rfl ?_
  refine L.as rfl rfl ?_
  refine L.nil ?_
  refine At.then ?_
  refine At.ret ?_
  refine At.inBlockRet (At.thenRet ?_)
  exact At.ret2 [] rfl rfl rfl ⟨rfl, rfl⟩ (Ent.drop.trans Ent.drop)
  -- unused hints: ['plain']

theorem told_errno (e : Int) : Does Tryd.prog Good 32 [.iface 26 (.int .i64 e)].toArray [] fun v m => v = .tuple #[.int .i64 e, .int .i64 (-1)] ∧ m = [] := by
  refine Does.body Tryd.func32 rfl rfl fun E fr hE => ?_
  refine At.app0 ?_
  refine At.seq ?_
  refine At.region ?_
  refine L.as rfl rfl ?_
  refine L.as rfl rfl ?_
  refine L.nil ?_
  refine At.then ?_
  refine At.seq ?_
  refine At.region ?_
  refine L.op rfl (o_alloc (z := .pointer none) rfl rfl fun b4 => ?_)
  refine L.nil ?_
  refine At.then ?_
  refine At.seq ?_
  refine At.region ?_
  refine L.op rfl (o_alloc (z := .int .i64 0) rfl rfl fun b5 => ?_)
  refine L.nil ?_
  refine At.then ?_
  refine At.seq ?_
  refine At.block ?_
  refine At.seq ?_
  refine At.region ?_
  refine L.mv rfl rfl ?_
  refine L.pure rfl (ev_eqlNil rfl rfl) ?_
  refine L.as rfl rfl ?_
  refine L.nil ?_
  refine At.then ?_
  refine At.condF rfl ?_
  refine At.seq ?_
  refine At.region ?_
  refine L.mv rfl rfl ?_
  refine L.pure rfl (ev_iface rfl rfl rfl) ?_
  refine L.op rfl (o_call rfl rfl rfl hE (As_miss e b4 (.pointer none)) (Ent.sel (.tail (.head))) ?_)
  rintro v m ⟨rfl, rfl⟩
  refine At.app1 ?_
  refine L.mv rfl rfl ?_
  refine L.off rfl rfl rfl rfl rfl rfl ?_
  refine L.off rfl rfl rfl rfl rfl rfl ?_
  refine L.off rfl rfl rfl rfl rfl rfl ?_
  refine L.off rfl rfl rfl rfl rfl rfl ?_
  refine L.off rfl rfl rfl rfl rfl rfl ?_
  refine L.off rfl rfl rfl rfl rfl rfl ?_
  refine L.off rfl rfl rfl rfl rfl rfl ?_
  refine L.pure rfl (ev_pick rfl rfl rfl) ?_
  refine L.as rfl rfl ?_
  refine L.nil ?_
  refine At.then ?_
  refine At.condF rfl ?_
  refine At.seq ?_
  refine At.region ?_
  refine L.mv rfl rfl ?_
  refine L.pure rfl (ev_iface rfl rfl rfl) ?_
  refine L.op rfl (o_call rfl rfl rfl hE (As_errno e b5 (.int .i64 0)) (Ent.sel (.tail (.head))) ?_)
  rintro v m ⟨rfl, rfl⟩
  refine At.app1 ?_
  refine L.mv rfl rfl ?_
  refine L.on rfl rfl rfl (L.vala rfl (ev_move rfl) (fun _ _ => trivial) ?_)
  refine L.on rfl rfl rfl (L.vala rfl (ev_load1 rfl rfl) (cellIs rfl) ?_)
  refine L.on rfl rfl rfl (L.vala rfl (ev_iface rfl rfl rfl) (fun _ _ => trivial) ?_)
  refine L.on rfl rfl rfl (o_call rfl rfl rfl hE (is_errno e) (Ent.refl _) ?_)
  rintro v m ⟨rfl, rfl⟩
  refine At.app0 ?_
  refine L.pure rfl (ev_pick rfl rfl rfl) ?_
  refine L.as rfl rfl ?_
  refine L.nil ?_
  refine At.then ?_
  refine At.condT rfl ?_
  refine At.seq ?_
  refine At.region ?_
  refine L.ld rfl rfl rfl rfl ?_
  refine L.as rfl rfl ?_
  refine L.as rfl rfl ?_
  refine L.nil ?_
  refine At.then ?_
  refine At.ret ?_
  refine At.inBlockRet (At.thenRet ?_)
  exact At.ret2 [] rfl rfl rfl ⟨rfl, rfl⟩ (Ent.drop.trans Ent.drop)

theorem told_fault (b : Nat) (e a : Int) : Does Tryd.prog Good 32 [.iface 95 (.pointer (some ⟨b, 0, none⟩))].toArray [blk b 100 #[.int .i64 e, .int .i64 a]] fun v m => v = .tuple #[.int .i64 e, .int .i64 a] ∧ m = [blk b 100 #[.int .i64 e, .int .i64 a]] := by
  refine Does.body Tryd.func32 rfl rfl fun E fr hE => ?_
  refine At.app1 ?_
  refine At.seq ?_
  refine At.region ?_
  refine L.as rfl rfl ?_
  refine L.as rfl rfl ?_
  refine L.nil ?_
  refine At.then ?_
  refine At.seq ?_
  refine At.region ?_
  refine L.op rfl (o_alloc (z := .pointer none) rfl rfl fun b4 => ?_)
  refine L.nil ?_
  refine At.then ?_
  refine At.seq ?_
  refine At.region ?_
  refine L.op rfl (o_alloc (z := .int .i64 0) rfl rfl fun b5 => ?_)
  refine L.nil ?_
  refine At.then ?_
  refine At.seq ?_
  refine At.block ?_
  refine At.seq ?_
  refine At.region ?_
  refine L.mv rfl rfl ?_
  refine L.pure rfl (ev_eqlNil rfl rfl) ?_
  refine L.as rfl rfl ?_
  refine L.nil ?_
  refine At.then ?_
  refine At.condF rfl ?_
  refine At.seq ?_
  refine At.region ?_
  refine L.mv rfl rfl ?_
  refine L.pure rfl (ev_iface rfl rfl rfl) ?_
  refine L.op rfl (o_call rfl rfl rfl hE (As_fault ⟨b, 0, none⟩ b4 (.pointer none)) (Ent.sel (.tail (.head))) ?_)
  rintro v m ⟨rfl, rfl⟩
  refine At.app1 ?_
  refine L.mv rfl rfl ?_
  refine L.on rfl rfl rfl (L.vala rfl (ev_move rfl) (fun _ _ => trivial) ?_)
  refine L.on rfl rfl rfl (L.vala rfl (ev_load1 rfl rfl) (cellIs rfl) ?_)
  refine L.on rfl rfl rfl (L.vala rfl (ev_nil rfl) (fun _ _ => trivial) ?_)
  refine L.on rfl rfl rfl (L.vala rfl (ev_field (off := 0) rfl rfl) (fun _ _ => trivial) ?_)
  refine L.on rfl rfl rfl (L.vala rfl (ev_load1 rfl rfl) (cellIs rfl) ?_)
  refine L.on rfl rfl rfl (L.vala rfl (ev_iface rfl rfl rfl) (fun _ _ => trivial) ?_)
  refine L.on rfl rfl rfl (o_call rfl rfl rfl hE (is_fault b e (.int .i64 a)) (Ent.sel (.tail (.tail (.head)))) ?_)
  rintro v m ⟨rfl, rfl⟩
  refine At.app1 ?_
  refine L.pure rfl (ev_pick rfl rfl rfl) ?_
  refine L.as rfl rfl ?_
  refine L.nil ?_
  refine At.then ?_
  refine At.condT rfl ?_
  refine At.seq ?_
  refine Dr.start rfl ?_
  refine Dr.ld 0 rfl rfl (by kernel_rfl) (ev_load1 rfl rfl) (cellIs rfl) ?_
  refine Dr.p 1 rfl rfl (by kernel_rfl) (ev_nil rfl) ?_
  refine Dr.p 2 rfl rfl (by kernel_rfl) (ev_field (off := 0) rfl rfl) ?_
  refine Dr.ld 3 rfl rfl (by kernel_rfl) (ev_load1 rfl rfl) (cellIs rfl) ?_
  refine Dr.ld 4 rfl rfl (by kernel_rfl) (ev_load1 rfl rfl) (cellIs rfl) ?_
  refine Dr.p 5 rfl rfl (by kernel_rfl) (ev_nil rfl) ?_
  refine Dr.p 6 rfl rfl (by kernel_rfl) (ev_field (off := 1) rfl rfl) ?_
  refine Dr.ld 7 rfl rfl (by kernel_rfl) (ev_load1 rfl rfl) (cellIs rfl) ?_
  refine Dr.p 8 rfl rfl (by kernel_rfl) (ev_assign rfl) ?_
  refine Dr.p 9 rfl rfl (by kernel_rfl) (ev_assign rfl) ?_
  refine Dr.done (by kernel_rfl) ?_
  refine At.then ?_
  refine At.ret ?_
  refine At.inBlockRet (At.thenRet ?_)
  exact At.ret2 [_] rfl rfl rfl ⟨rfl, rfl⟩ (Ent.cons (Ent.drop.trans Ent.drop))
end Go.Proofs.YtagkobkmaigfcaaDoor
