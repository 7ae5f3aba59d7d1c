/- errors.Is at a fault and at a number; plain.Told. -/
import Derived.Test.YtmeegfamopaljaaGreatDoorFiW
namespace Go.Proofs.YtmeegfamopaljaaGreatDoor
open Go Go.RowKit Go.SL Go.Extern
set_option maxRecDepth 10000
set_option maxHeartbeats 4000000
theorem unwrap_does {G : Env → Prop} (b : Nat) (e a : Value) : Does Tryz.prog G 353 [.pointer (some ⟨b, 0, none⟩)].toArray [blk b 164 #[e, a]] fun v m => v = .iface 48 e ∧ m = [blk b 164 #[e, a]] := by
  refine Does.body Tryz.func353 rfl rfl fun E fr hE => ?_
  refine At.app1 ?_
  refine At.seq ?_
  refine At.region ?_
  refine L.as rfl rfl ?_
  refine L.nil ?_
  refine At.then ?_
  refine At.seq ?_
  refine At.region ?_
  refine L.mv rfl rfl ?_
  refine L.nc rfl rfl ?_
  refine L.fa 0 rfl rfl rfl ?_
  refine L.ld rfl rfl rfl rfl ?_
  refine L.pure rfl (ev_iface rfl rfl rfl) ?_
  refine L.as rfl rfl ?_
  refine L.nil ?_
  refine At.then ?_
  refine At.ret ?_
  exact At.ret1 [_] rfl rfl ⟨rfl, rfl⟩ (Ent.refl _)
theorem is_errno_in (e : Int) : Does Tryz.prog Good 149 [.iface 48 (.int .i64 e), .iface 48 (.int .i64 e), .bool true].toArray [] fun v m => v = .bool true ∧ m = [] := by
  refine Does.body Tryz.func149 rfl rfl fun E fr hE => ?_
  refine At.app0 ?_
  refine At.seq ?_
  refine At.region ?_
  refine L.as rfl rfl ?_
  refine L.nil ?_
  refine At.then ?_
  refine At.block ?_
  refine At.loop (X := Unit) (fun _ => [(0, .iface 48 (.int .i64 e)), (1, .iface 48 (.int .i64 e)), (2, .bool true)]) (fun _ => fr) (fun _ => True) (fun _ => 0) () trivial ⟨rfl, rfl, rfl, trivial⟩ (Ent.refl _) ?_
  rintro _ _
  refine At.block ?_
  refine At.seq ?_
  refine At.seq ?_
  refine At.region ?_
  refine L.mv rfl rfl ?_
  refine L.mv rfl rfl ?_
  refine L.on rfl rfl rfl (L.vala rfl (ev_move rfl) (fun _ _ => trivial) ?_)
  refine L.on rfl rfl rfl (L.vala rfl (ev_move rfl) (fun _ _ => trivial) ?_)
  refine L.on rfl rfl rfl (L.vala rfl (ev_eqlEI (r := true) rfl rfl rfl rfl rfl rfl (by simp)) (fun _ _ => trivial) ?_)
  refine L.pure rfl (ev_pick rfl rfl rfl) ?_
  refine L.nil ?_
  refine At.then ?_
  refine At.condT rfl ?_
  refine At.seq ?_
  refine At.region ?_
  refine L.as rfl rfl ?_
  refine L.nil ?_
  refine At.then ?_
  refine At.ret ?_
  refine At.thenRet (At.inBlockRet (At.roundRet (At.inBlockRet ?_)))
  exact At.ret1 [] rfl rfl ⟨rfl, rfl⟩ (Ent.refl _)
theorem is_fault_in (b : Nat) (e : Int) (a : Value) : Does Tryz.prog Good 149 [.iface 159 (.pointer (some ⟨b, 0, none⟩)), .iface 48 (.int .i64 e), .bool true].toArray [blk b 164 #[.int .i64 e, a]] fun v m => v = .bool true ∧ m = [blk b 164 #[.int .i64 e, a]] := by
  refine Does.body Tryz.func149 rfl rfl fun E fr hE => ?_
  refine At.app1 ?_
  refine At.seq ?_
  refine At.region ?_
  refine L.as rfl rfl ?_
  refine L.nil ?_
  refine At.then ?_
  refine At.block ?_
  refine At.loop (X := Bool) (fun x => [(0, bif x then .iface 48 (.int .i64 e) else .iface 159 (.pointer (some ⟨b, 0, none⟩))), (1, .iface 48 (.int .i64 e)), (2, .bool true)]) (fun _ => blk b 164 #[.int .i64 e, a] :: fr) (fun _ => True) (fun x => bif x then 0 else 1) false trivial ⟨rfl, rfl, rfl, trivial⟩ (Ent.refl _) ?_
  rintro x _
  refine At.block ?_
  refine At.seq ?_
  refine At.seq ?_
  by_cases hx : x = true
  ·
    subst hx
    refine At.region ?_
    refine L.mv rfl rfl ?_
    refine L.mv rfl rfl ?_
    refine L.on rfl rfl rfl (L.vala rfl (ev_move rfl) (fun _ _ => trivial) ?_)
    refine L.on rfl rfl rfl (L.vala rfl (ev_move rfl) (fun _ _ => trivial) ?_)
    refine L.on rfl rfl rfl (L.vala rfl (ev_eqlEI (r := true) rfl rfl rfl rfl rfl rfl (by simp)) (fun _ _ => trivial) ?_)
    refine L.pure rfl (ev_pick rfl rfl rfl) ?_
    refine L.nil ?_
    refine At.then ?_
    refine At.condT rfl ?_
    refine At.seq ?_
    refine At.region ?_
    refine L.as rfl rfl ?_
    refine L.nil ?_
    refine At.then ?_
    refine At.ret ?_
    refine At.thenRet (At.inBlockRet (At.roundRet (At.inBlockRet ?_)))
    exact At.ret1 [_] rfl rfl ⟨rfl, rfl⟩ (Ent.refl _)
  ·
    obtain rfl : x = false := by simpa using hx
    refine At.region ?_
    refine L.mv rfl rfl ?_
    refine L.mv rfl rfl ?_
    refine L.on rfl rfl rfl (L.vala rfl (ev_move rfl) (fun _ _ => trivial) ?_)
    refine L.on rfl rfl rfl (L.vala rfl (ev_move rfl) (fun _ _ => trivial) ?_)
    refine L.on rfl rfl rfl (L.vala rfl (ev_eqlNeT rfl rfl rfl rfl) (fun _ _ => trivial) ?_)
    refine L.pure rfl (ev_pick rfl rfl rfl) ?_
    refine L.nil ?_
    refine At.then ?_
    refine At.condF rfl ?_
    refine At.skip ?_
    refine At.then ?_
    refine At.seq ?_
    refine At.seq ?_
    refine At.region ?_
    refine L.mv rfl rfl ?_
    refine L.pure rfl (ev_asINot (z := .nilIface) rfl rfl (by kernel_rfl) (by kernel_rfl)) ?_
    refine L.mv rfl rfl ?_
    refine L.ex rfl rfl rfl ?_
    refine L.ex rfl rfl rfl ?_
    refine L.as rfl rfl ?_
    refine L.as rfl rfl ?_
    refine L.nil ?_
    refine At.then ?_
    refine At.seq ?_
    refine At.region ?_
    refine L.mv rfl rfl ?_
    refine L.mv rfl rfl ?_
    refine L.off rfl rfl rfl rfl rfl rfl ?_
    refine L.off rfl rfl rfl rfl rfl rfl ?_
    refine L.off rfl rfl rfl rfl rfl rfl ?_
    refine L.pure rfl (ev_pick rfl rfl rfl) ?_
    refine L.nil ?_
    refine At.then ?_
    refine At.condF rfl ?_
    refine At.skip ?_
    refine At.then ?_
    refine At.seq ?_
    refine At.region ?_
    refine L.mv rfl rfl ?_
    refine L.nil ?_
    refine At.then ?_
    refine At.block ?_
    refine At.seq ?_
    refine At.region ?_
    refine L.pure rfl (ev_asI rfl rfl (by kernel_rfl)) ?_
    refine L.ex rfl rfl rfl ?_
    refine L.ex rfl rfl rfl ?_
    refine L.nil ?_
    refine At.then ?_
    refine At.condT rfl ?_
    refine At.seq ?_
    refine At.region ?_
    refine L.as rfl rfl ?_
    refine L.nil ?_
    refine At.then ?_
    refine At.seq ?_
    refine At.region ?_
    refine L.mv rfl rfl ?_
    refine L.op rfl (o_invoke rfl rfl rfl (mUnwrap _) rfl hE (unwrap_does b (.int .i64 e) a) (Ent.refl _) ?_)
    rintro v m ⟨rfl, rfl⟩
    refine At.app1 ?_
    refine L.as rfl rfl ?_
    refine L.nil ?_
    refine At.then ?_
    refine At.seq ?_
    refine At.region ?_
    refine L.mv rfl rfl ?_
    refine L.pure rfl (ev_eqlNil rfl rfl) ?_
    refine L.nil ?_
    refine At.then ?_
    refine At.condF rfl ?_
    refine At.skip ?_
    refine At.inBlock (At.inBlock ?_)
    exact At.round true trivial (by simp) ⟨rfl, rfl, rfl, trivial⟩ (Ent.refl _)
theorem is_errno (e : Int) : Does Tryz.prog Good 92 [.iface 48 (.int .i64 e), .iface 48 (.int .i64 e)].toArray [] fun v m => v = .bool true ∧ m = [] := by
  refine Does.body Tryz.func92 rfl rfl fun E fr hE => ?_
  refine At.app0 ?_
  refine At.seq ?_
  refine At.region ?_
  refine L.as rfl rfl ?_
  refine L.nil ?_
  refine At.then ?_
  refine At.seq ?_
  refine At.seq ?_
  refine At.region ?_
  refine L.mv rfl rfl ?_
  refine L.pure rfl (ev_eqlNil rfl rfl) ?_
  refine L.mv rfl rfl ?_
  refine L.on rfl rfl rfl (L.vala rfl (ev_move rfl) (fun _ _ => trivial) ?_)
  refine L.on rfl rfl rfl (L.vala rfl (ev_eqlNil rfl rfl) (fun _ _ => trivial) ?_)
  refine L.pure rfl (ev_pick rfl rfl rfl) ?_
  refine L.nil ?_
  refine At.then ?_
  refine At.condF rfl ?_
  refine At.skip ?_
  refine At.then ?_
  refine At.seq ?_
  refine At.region ?_
  refine L.mv rfl rfl ?_
  refine L.pure rfl (ev_ext rfl fun w _ => typeOfN _ w) ?_
  refine L.pure rfl (ev_mext rfl rfl (mComparable _) fun w _ => comparableN w) ?_
  refine L.as rfl rfl ?_
  refine L.nil ?_
  refine At.then ?_
  refine At.seq ?_
  refine At.region ?_
  refine L.mv rfl rfl ?_
  refine L.mv rfl rfl ?_
  refine L.mv rfl rfl ?_
  refine L.op rfl (o_call rfl rfl rfl hE (is_errno_in e) (Ent.refl _) ?_)
  rintro v m ⟨rfl, rfl⟩
  refine At.app0 ?_
  refine L.as rfl rfl ?_
  refine L.nil ?_
  refine At.then ?_
  refine At.ret ?_
  exact At.ret1 [] rfl rfl ⟨rfl, rfl⟩ (Ent.refl _)
theorem is_fault (b : Nat) (e : Int) (a : Value) : Does Tryz.prog Good 92 [.iface 159 (.pointer (some ⟨b, 0, none⟩)), .iface 48 (.int .i64 e)].toArray [blk b 164 #[.int .i64 e, a]] fun v m => v = .bool true ∧ m = [blk b 164 #[.int .i64 e, a]] := by
  refine Does.body Tryz.func92 rfl rfl fun E fr hE => ?_
  refine At.app1 ?_
  refine At.seq ?_
  refine At.region ?_
  refine L.as rfl rfl ?_
  refine L.nil ?_
  refine At.then ?_
  refine At.seq ?_
  refine At.seq ?_
  refine At.region ?_
  refine L.mv rfl rfl ?_
  refine L.pure rfl (ev_eqlNil rfl rfl) ?_
  refine L.mv rfl rfl ?_
  refine L.on rfl rfl rfl (L.vala rfl (ev_move rfl) (fun _ _ => trivial) ?_)
  refine L.on rfl rfl rfl (L.vala rfl (ev_eqlNil rfl rfl) (fun _ _ => trivial) ?_)
  refine L.pure rfl (ev_pick rfl rfl rfl) ?_
  refine L.nil ?_
  refine At.then ?_
  refine At.condF rfl ?_
  refine At.skip ?_
  refine At.then ?_
  refine At.seq ?_
  refine At.region ?_
  refine L.mv rfl rfl ?_
  refine L.pure rfl (ev_ext rfl fun w _ => typeOfN _ w) ?_
  refine L.pure rfl (ev_mext rfl rfl (mComparable _) fun w _ => comparableN w) ?_
  refine L.as rfl rfl ?_
  refine L.nil ?_
  refine At.then ?_
  refine At.seq ?_
  refine At.region ?_
  refine L.mv rfl rfl ?_
  refine L.mv rfl rfl ?_
  refine L.mv rfl rfl ?_
  refine L.op rfl (o_call rfl rfl rfl hE (is_fault_in b e a) (Ent.refl _) ?_)
  rintro v m ⟨rfl, rfl⟩
  refine At.app1 ?_
  refine L.as rfl rfl ?_
  refine L.nil ?_
  refine At.then ?_
  refine At.ret ?_
  exact At.ret1 [_] rfl rfl ⟨rfl, rfl⟩ (Ent.refl _)
theorem told_nil : Does Tryz.prog Good 48 [.nilIface].toArray [] fun v m => v = .tuple #[.int .i64 0, .int .i64 (-1)] ∧ m = [] := by
  refine Does.body Tryz.func48 rfl rfl fun E fr hE => ?_
  refine At.app0 ?_
  refine At.seq ?_
  refine At.region ?_
  refine L.as rfl rfl ?_
  refine L.as rfl rfl ?_
  refine L.nil ?_
  refine At.then ?_
  refine At.seq ?_
  refine At.region ?_
  refine L.op rfl (o_alloc (z := .pointer none) rfl rfl fun b4 => ?_)
  refine L.nil ?_
  refine At.then ?_
  refine At.seq ?_
  refine At.region ?_
  refine L.op rfl (o_alloc (z := .int .i64 0) rfl rfl fun b5 => ?_)
  refine L.nil ?_
  refine At.then ?_
  refine At.seq ?_
  refine At.block ?_
  refine At.seq ?_
  refine At.region ?_
  refine L.mv rfl rfl ?_
  refine L.pure rfl (ev_eqlNil0 rfl rfl) ?_
  refine L.as rfl rfl ?_
  refine L.nil ?_
  refine At.then ?_
  refine At.condT rfl ?_
  refine At.seq ?_
  refine At.region ?_
  refine L.as rfl rfl ?_
  refine L.as rfl rfl ?_
  refine L.nil ?_
  refine At.then ?_
  refine At.ret ?_
  refine At.inBlockRet (At.thenRet ?_)
  exact At.ret2 [] rfl rfl rfl ⟨rfl, rfl⟩ (Ent.drop.trans Ent.drop)
theorem told_errno (e : Int) : Does Tryz.prog Good 48 [.iface 48 (.int .i64 e)].toArray [] fun v m => v = .tuple #[.int .i64 e, .int .i64 (-1)] ∧ m = [] := by
  refine Does.body Tryz.func48 rfl rfl fun E fr hE => ?_
  refine At.app0 ?_
  refine At.seq ?_
  refine At.region ?_
  refine L.as rfl rfl ?_
  refine L.as rfl rfl ?_
  refine L.nil ?_
  refine At.then ?_
  refine At.seq ?_
  refine At.region ?_
  refine L.op rfl (o_alloc (z := .pointer none) rfl rfl fun b4 => ?_)
  refine L.nil ?_
  refine At.then ?_
  refine At.seq ?_
  refine At.region ?_
  refine L.op rfl (o_alloc (z := .int .i64 0) rfl rfl fun b5 => ?_)
  refine L.nil ?_
  refine At.then ?_
  refine At.seq ?_
  refine At.block ?_
  refine At.seq ?_
  refine At.region ?_
  refine L.mv rfl rfl ?_
  refine L.pure rfl (ev_eqlNil rfl rfl) ?_
  refine L.as rfl rfl ?_
  refine L.nil ?_
  refine At.then ?_
  refine At.condF rfl ?_
  refine At.seq ?_
  refine At.region ?_
  refine L.mv rfl rfl ?_
  refine L.pure rfl (ev_iface rfl rfl rfl) ?_
  refine L.op rfl (o_call rfl rfl rfl hE (As_miss e b4 (.pointer none)) (Ent.sel (.tail (.head))) ?_)
  rintro v m ⟨rfl, rfl⟩
  refine At.app1 ?_
  refine L.mv rfl rfl ?_
  refine L.off rfl rfl rfl rfl rfl rfl ?_
  refine L.off rfl rfl rfl rfl rfl rfl ?_
  refine L.off rfl rfl rfl rfl rfl rfl ?_
  refine L.off rfl rfl rfl rfl rfl rfl ?_
  refine L.off rfl rfl rfl rfl rfl rfl ?_
  refine L.off rfl rfl rfl rfl rfl rfl ?_
  refine L.off rfl rfl rfl rfl rfl rfl ?_
  refine L.pure rfl (ev_pick rfl rfl rfl) ?_
  refine L.as rfl rfl ?_
  refine L.nil ?_
  refine At.then ?_
  refine At.condF rfl ?_
  refine At.seq ?_
  refine At.region ?_
  refine L.mv rfl rfl ?_
  refine L.pure rfl (ev_iface rfl rfl rfl) ?_
  refine L.op rfl (o_call rfl rfl rfl hE (As_errno e b5 (.int .i64 0)) (Ent.sel (.tail (.head))) ?_)
  rintro v m ⟨rfl, rfl⟩
  refine At.app1 ?_
  refine L.mv rfl rfl ?_
  refine L.on rfl rfl rfl (L.vala rfl (ev_move rfl) (fun _ _ => trivial) ?_)
  refine L.on rfl rfl rfl (L.vala rfl (ev_load1 rfl rfl) (cellIs rfl) ?_)
  refine L.on rfl rfl rfl (L.vala rfl (ev_iface rfl rfl rfl) (fun _ _ => trivial) ?_)
  refine L.on rfl rfl rfl (o_call rfl rfl rfl hE (is_errno e) (Ent.refl _) ?_)
  rintro v m ⟨rfl, rfl⟩
  refine At.app0 ?_
  refine L.pure rfl (ev_pick rfl rfl rfl) ?_
  refine L.as rfl rfl ?_
  refine L.nil ?_
  refine At.then ?_
  refine At.condT rfl ?_
  refine At.seq ?_
  refine At.region ?_
  refine L.ld rfl rfl rfl rfl ?_
  refine L.as rfl rfl ?_
  refine L.as rfl rfl ?_
  refine L.nil ?_
  refine At.then ?_
  refine At.ret ?_
  refine At.inBlockRet (At.thenRet ?_)
  exact At.ret2 [] rfl rfl rfl ⟨rfl, rfl⟩ (Ent.drop.trans Ent.drop)
theorem told_fault (b : Nat) (e a : Int) : Does Tryz.prog Good 48 [.iface 159 (.pointer (some ⟨b, 0, none⟩))].toArray [blk b 164 #[.int .i64 e, .int .i64 a]] fun v m => v = .tuple #[.int .i64 e, .int .i64 a] ∧ m = [blk b 164 #[.int .i64 e, .int .i64 a]] := by
  refine Does.body Tryz.func48 rfl rfl fun E fr hE => ?_
  refine At.app1 ?_
  refine At.seq ?_
  refine At.region ?_
  refine L.as rfl rfl ?_
  refine L.as rfl rfl ?_
  refine L.nil ?_
  refine At.then ?_
  refine At.seq ?_
  refine At.region ?_
  refine L.op rfl (o_alloc (z := .pointer none) rfl rfl fun b4 => ?_)
  refine L.nil ?_
  refine At.then ?_
  refine At.seq ?_
  refine At.region ?_
  refine L.op rfl (o_alloc (z := .int .i64 0) rfl rfl fun b5 => ?_)
  refine L.nil ?_
  refine At.then ?_
  refine At.seq ?_
  refine At.block ?_
  refine At.seq ?_
  refine At.region ?_
  refine L.mv rfl rfl ?_
  refine L.pure rfl (ev_eqlNil rfl rfl) ?_
  refine L.as rfl rfl ?_
  refine L.nil ?_
  refine At.then ?_
  refine At.condF rfl ?_
  refine At.seq ?_
  refine At.region ?_
  refine L.mv rfl rfl ?_
  refine L.pure rfl (ev_iface rfl rfl rfl) ?_
  refine L.op rfl (o_call rfl rfl rfl hE (As_fault ⟨b, 0, none⟩ b4 (.pointer none)) (Ent.sel (.tail (.head))) ?_)
  rintro v m ⟨rfl, rfl⟩
  refine At.app1 ?_
  refine L.mv rfl rfl ?_
  refine L.on rfl rfl rfl (L.vala rfl (ev_move rfl) (fun _ _ => trivial) ?_)
  refine L.on rfl rfl rfl (L.vala rfl (ev_load1 rfl rfl) (cellIs rfl) ?_)
  refine L.on rfl rfl rfl (L.vala rfl (ev_nil rfl) (fun _ _ => trivial) ?_)
  refine L.on rfl rfl rfl (L.vala rfl (ev_field (off := 0) rfl rfl) (fun _ _ => trivial) ?_)
  refine L.on rfl rfl rfl (L.vala rfl (ev_load1 rfl rfl) (cellIs rfl) ?_)
  refine L.on rfl rfl rfl (L.vala rfl (ev_iface rfl rfl rfl) (fun _ _ => trivial) ?_)
  refine L.on rfl rfl rfl (o_call rfl rfl rfl hE (is_fault b e (.int .i64 a)) (Ent.sel (.tail (.tail (.head)))) ?_)
  rintro v m ⟨rfl, rfl⟩
  refine At.app1 ?_
  refine L.pure rfl (ev_pick rfl rfl rfl) ?_
  refine L.as rfl rfl ?_
  refine L.nil ?_
  refine At.then ?_
  refine At.condT rfl ?_
  refine At.seq ?_
  refine Dr.start rfl ?_
  refine Dr.ld 0 rfl rfl (by kernel_rfl) (ev_load1 rfl rfl) (cellIs rfl) ?_
  refine Dr.p 1 rfl rfl (by kernel_rfl) (ev_nil rfl) ?_
  refine Dr.p 2 rfl rfl (by kernel_rfl) (ev_field (off := 0) rfl rfl) ?_
  refine Dr.ld 3 rfl rfl (by kernel_rfl) (ev_load1 rfl rfl) (cellIs rfl) ?_
  refine Dr.ld 4 rfl rfl (by kernel_rfl) (ev_load1 rfl rfl) (cellIs rfl) ?_
  refine Dr.p 5 rfl rfl (by kernel_rfl) (ev_nil rfl) ?_
  refine Dr.p 6 rfl rfl (by kernel_rfl) (ev_field (off := 1) rfl rfl) ?_
  refine Dr.ld 7 rfl rfl (by kernel_rfl) (ev_load1 rfl rfl) (cellIs rfl) ?_
  refine Dr.p 8 rfl rfl (by kernel_rfl) (ev_assign rfl) ?_
  refine Dr.p 9 rfl rfl (by kernel_rfl) (ev_assign rfl) ?_
  refine Dr.done (by kernel_rfl) ?_
  refine At.then ?_
  refine At.ret ?_
  refine At.inBlockRet (At.thenRet ?_)
  exact At.ret2 [_] rfl rfl rfl ⟨rfl, rfl⟩ (Ent.cons (Ent.drop.trans Ent.drop))
end Go.Proofs.YtmeegfamopaljaaGreatDoor

namespace FK
structure Quiet (σ : Dsk) : Prop where
  down : σ.down = false
  left : σ.left = -1
  full : σ.full = -1
  pend : σ.pend = []
def Dsk.logs (σ : Dsk) (n : Nat) (s : ByteArray) : Dsk := { σ with now := doOp σ.now ⟨2, logName n, s⟩, dur := doOp σ.dur ⟨2, logName n, s⟩ }
def Dsk.rested (σ : Dsk) : Dsk := { σ with left := -1, full := -1 }
def Dsk.spent (σ : Dsk) : Dsk := { σ with left := -3, full := -3 }
theorem Quiet.logs {σ : Dsk} (h : Quiet σ) (n : Nat) (s : ByteArray) : Quiet (σ.logs n s) := ⟨h.down, h.left, h.full, h.pend⟩
theorem Quiet.rested {σ : Dsk} (h : Quiet σ) : σ.rested = σ := by
  obtain ⟨a, b, c, d, e, f⟩ := σ
  obtain ⟨h1, h2, h3, h4⟩ := h
  simp only at h2 h3
  subst h2; subst h3
  rfl
theorem Quiet.add {σ : Dsk} (h : Quiet σ) {J : Jn} (hJ : J.broken = 0) (s : ByteArray) : J.add σ s = (J, (σ.logs J.n s).spent, 0) := by
  obtain ⟨a, b, c, d, e, f⟩ := σ
  obtain ⟨h1, h2, h3, h4⟩ := h
  obtain ⟨n, t, br⟩ := J
  simp only at h1 h2 h3 h4 hJ
  subst h1; subst h2; subst h3; subst h4; subst hJ
  have e1 : Go.IntKind.i64.wrap (-2) = -2 := by decide
  have e2 : Go.IntKind.i64.wrap (-3) = -3 := by decide
  simp [Jn.add, Dsk.tell, Dsk.writes, Dsk.sync, e1, e2, Dsk.logs, Dsk.spent]
end FK
namespace Go.Proofs.YtmeegfamopaljaaGreatDoor
open Go Go.RowKit Go.SL
variable {G : Env → Prop}
abbrev hostB (h d : Nat) (fp : Option Addr) : HP := blk h 118 #[ptr d, .pointer fp]
abbrev fallL (l fu ke pa : Int) : List Value := [.int .i64 l, .int .i64 fu, .int .i64 ke, .int .i64 pa]
abbrev fallV (l fu ke pa : Int) : Value := .agg (fallL l fu ke pa).toArray
abbrev wellV : Value := fallV (-1) (-1) 0 0
set_option maxRecDepth 10000 in
theorem well_does : Does Tryz.prog G 18 [].toArray [] fun v m => v = wellV ∧ m = [] := by
  refine Does.body Tryz.func18 rfl rfl fun E fr hE => ?_
  refine At.app0 ?_
  refine At.seq ?_
  refine At.region ?_
  refine L.op rfl (o_alloc (z := .agg #[.int .i64 0, .int .i64 0, .int .i64 0, .int .i64 0]) rfl rfl fun b0 => ?_)
  refine L.nil ?_
  refine At.then ?_
  refine At.seq ?_
  refine At.region ?_
  refine L.pure rfl (ev_build (ps := [(0, .const (.int .i64 (-1))), (1, .const (.int .i64 (-1)))]) (vs := [.int .i64 (-1), .int .i64 (-1)]) (cs := (fallL (-1) (-1) 0 0).toArray) rfl rfl rfl rfl rfl) ?_
  refine L.op rfl (o_storeN rfl (m := 4) (vs := fallL (-1) (-1) 0 0) rfl rfl rfl rfl (by simp [Value.oneCell']) (by show 0 + 4 ≤ 4; omega) ?_)
  refine At.blkAs b0 (fallL (-1) (-1) 0 0).toArray rfl ?_
  refine L.nil ?_
  refine At.then ?_
  refine At.ret ?_
  exact At.res1 [] rfl (Res.cellN (vs := fallL (-1) (-1) 0 0) rfl rfl rfl rfl (rowAll rfl)) ⟨rfl, rfl⟩ Ent.drop
set_option maxRecDepth 10000 in
theorem hbefore_does {h d : Nat} {fp : Option Addr} {σ : FK.Dsk} (l fu ke pa : Int) : Does Tryz.prog G 49 [ptr h, fallV l fu ke pa].toArray [hostB h d fp, diskAt d σ] fun v m => v = .tuple #[] ∧ m = [hostB h d fp, diskAt d { σ with left := l, full := fu }] := by
  refine Does.body Tryz.func49 rfl rfl fun E fr hE => ?_
  refine At.app2 ?_
  refine At.ex (.tail .head) fun q => At.openAll ?_
  refine At.ent (l' := diskR d q σ (hostB h d fp :: fr)) (Ent.refl _) ?_
  refine At.seq ?_
  refine At.region ?_
  refine L.op rfl (o_box rfl rfl fun b3 => ?_)
  refine L.nil ?_
  refine At.then ?_
  refine Dr.start rfl ?_
  refine Dr.p 0 rfl rfl (by kernel_rfl) (ev_move rfl) ?_
  refine Dr.p 1 rfl rfl (by kernel_rfl) (ev_nil rfl) ?_
  refine Dr.p 2 rfl rfl (by kernel_rfl) (ev_field (off := 0) rfl rfl) ?_
  refine Dr.ld 3 rfl rfl (by kernel_rfl) (ev_load1 rfl rfl) (cellIs rfl) ?_
  refine Dr.p 4 rfl rfl (by kernel_rfl) (ev_move rfl) ?_
  refine Dr.p 5 rfl rfl (by kernel_rfl) (ev_nil rfl) ?_
  refine Dr.p 6 rfl rfl (by kernel_rfl) (ev_field (off := 0) rfl rfl) ?_
  refine Dr.ld 7 rfl rfl (by kernel_rfl) (ev_load1 rfl rfl) (cellIs rfl) ?_
  refine Dr.p 8 rfl rfl (by kernel_rfl) (ev_field (off := 0) rfl rfl) ?_
  refine Dr.ld 9 rfl rfl (by kernel_rfl) (ev_load1 rfl rfl) (cellIs rfl) ?_
  refine Dr.p 10 rfl rfl (by kernel_rfl) (ev_field (off := 1) rfl rfl) ?_
  refine Dr.ld 11 rfl rfl (by kernel_rfl) (ev_load1 rfl rfl) (cellIs rfl) ?_
  refine Dr.p 12 rfl rfl (by kernel_rfl) (ev_nil rfl) ?_
  refine Dr.p 13 rfl rfl (by kernel_rfl) (ev_field (off := 3) rfl rfl) ?_
  refine Dr.run 14 rfl rfl (by kernel_rfl) (o_store1 rfl rfl rfl rfl rfl (by first | decide | simp | (simp; omega)) ?_)
  refine Dr.kept [true, false, false, false] (by kernel_rfl) (Kept.cons (cellIs rfl) Kept.nil) ?_
  refine Dr.p 15 rfl rfl (by kernel_rfl) (ev_nil rfl) ?_
  refine Dr.p 16 rfl rfl (by kernel_rfl) (ev_field (off := 4) rfl rfl) ?_
  refine Dr.run 17 rfl rfl (by kernel_rfl) (o_store1 rfl rfl rfl rfl rfl (by first | decide | simp | (simp; omega)) ?_)
  refine Dr.kept [false] (by kernel_rfl) Kept.nil ?_
  refine Dr.done (by kernel_rfl) ?_
  refine At.blkAs d (dskC q { σ with left := l, full := fu }) rfl ?_
  refine At.end0 [hostB h d fp, diskAt d { σ with left := l, full := fu }] rfl ⟨rfl, rfl⟩ ?_
  refine Ent.trans ?_ ((Ent.closeDisk (d := d) q { σ with left := l, full := fu } (r := hostB h d fp :: fr)).trans (Ent.sel (.tail .head)))
  show Ent _ (blk d 131 (dskC q { σ with left := l, full := fu }) :: filesAt q.md q.P σ.dur :: filesAt q.mn q.P σ.now :: pool q.P :: row 211 3 q.pv σ.pend.length (opsV σ.pend) :: hostB h d fp :: fr)
  exact Ent.auto
set_option maxRecDepth 10000 in
theorem hafter_does {h d : Nat} {fp : Option Addr} {σ : FK.Dsk} (l fu ke pa : Int) (hd : σ.down = false) : Does Tryz.prog G 51 [ptr h, fallV l fu ke pa].toArray [hostB h d fp, diskAt d σ] fun v m => v = .tuple #[] ∧ m = [hostB h d fp, diskAt d σ.rested] := by
  obtain ⟨dur, now, pend, left, full, down⟩ := σ
  simp only at hd
  subst hd
  refine Does.body Tryz.func51 rfl rfl fun E fr hE => ?_
  refine At.app2 ?_
  refine At.ex (.tail .head) fun q => At.openAll ?_
  refine At.ent (l' := diskR d q ⟨dur, now, pend, left, full, false⟩ (hostB h d fp :: fr)) (Ent.refl _) ?_
  refine At.seq ?_
  refine At.region ?_
  refine L.op rfl (o_box rfl rfl fun b3 => ?_)
  refine L.nil ?_
  refine At.then ?_
  refine At.seq ?_
  refine At.seq ?_
  refine At.region ?_
  refine L.mv rfl rfl ?_
  refine L.nc rfl rfl ?_
  refine L.fa 0 rfl rfl rfl ?_
  refine L.ld rfl rfl rfl rfl ?_
  refine L.nc rfl rfl ?_
  refine L.fa 5 rfl rfl rfl ?_
  refine L.ld rfl rfl rfl rfl ?_
  refine L.nil ?_
  refine At.then ?_
  refine At.condF rfl ?_
  refine At.skip ?_
  refine At.then ?_
  refine Dr.start rfl ?_
  refine Dr.p 0 rfl rfl (by kernel_rfl) (ev_move rfl) ?_
  refine Dr.p 1 rfl rfl (by kernel_rfl) (ev_nil rfl) ?_
  refine Dr.p 2 rfl rfl (by kernel_rfl) (ev_field (off := 0) rfl rfl) ?_
  refine Dr.ld 3 rfl rfl (by kernel_rfl) (ev_load1 rfl rfl) (cellIs rfl) ?_
  refine Dr.p 4 rfl rfl (by kernel_rfl) (ev_move rfl) ?_
  refine Dr.p 5 rfl rfl (by kernel_rfl) (ev_nil rfl) ?_
  refine Dr.p 6 rfl rfl (by kernel_rfl) (ev_field (off := 0) rfl rfl) ?_
  refine Dr.ld 7 rfl rfl (by kernel_rfl) (ev_load1 rfl rfl) (cellIs rfl) ?_
  refine Dr.p 8 rfl rfl (by kernel_rfl) (ev_nil rfl) ?_
  refine Dr.p 9 rfl rfl (by kernel_rfl) (ev_field (off := 3) rfl rfl) ?_
  refine Dr.run 10 rfl rfl (by kernel_rfl) (o_store1 rfl rfl rfl rfl rfl (by first | decide | simp | (simp; omega)) ?_)
  refine Dr.kept [false, false] (by kernel_rfl) Kept.nil ?_
  refine Dr.p 11 rfl rfl (by kernel_rfl) (ev_nil rfl) ?_
  refine Dr.p 12 rfl rfl (by kernel_rfl) (ev_field (off := 4) rfl rfl) ?_
  refine Dr.run 13 rfl rfl (by kernel_rfl) (o_store1 rfl rfl rfl rfl rfl (by first | decide | simp | (simp; omega)) ?_)
  refine Dr.kept [] (by kernel_rfl) Kept.nil ?_
  refine Dr.done (by kernel_rfl) ?_
  refine At.blkAs d (dskC q ⟨dur, now, pend, -1, -1, false⟩) rfl ?_
  refine At.end0 [hostB h d fp, diskAt d ⟨dur, now, pend, -1, -1, false⟩] rfl ⟨rfl, rfl⟩ ?_
  refine Ent.trans ?_ ((Ent.closeDisk (d := d) q ⟨dur, now, pend, -1, -1, false⟩ (r := hostB h d fp :: fr)).trans (Ent.sel (.tail .head)))
  show Ent _ (blk d 131 (dskC q ⟨dur, now, pend, -1, -1, false⟩) :: filesAt q.md q.P dur :: filesAt q.mn q.P now :: pool q.P :: row 211 3 q.pv pend.length (opsV pend) :: hostB h d fp :: fr)
  exact Ent.auto
set_option maxRecDepth 10000 in
theorem number_nil : Does Tryz.prog Good 54 [.nilIface].toArray [] fun v m => v = .int .i64 0 ∧ m = [] := by
  refine Does.body Tryz.func54 rfl rfl fun E fr hE => ?_
  refine At.app0 ?_
  refine At.seq ?_
  refine At.region ?_
  refine L.as rfl rfl ?_
  refine L.nil ?_
  refine At.then ?_
  refine At.seq ?_
  refine At.region ?_
  refine L.mv rfl rfl ?_
  refine L.op rfl (o_call rfl rfl rfl hE told_nil (Ent.refl _) ?_)
  rintro v m ⟨rfl, rfl⟩
  refine At.app0 ?_
  refine L.mv rfl rfl ?_
  refine L.ex rfl rfl rfl ?_
  refine L.ex rfl rfl rfl ?_
  refine L.as rfl rfl ?_
  refine L.as rfl rfl ?_
  refine L.nil ?_
  refine At.then ?_
  refine At.seq ?_
  refine At.region ?_
  refine L.mv rfl rfl ?_
  refine L.as rfl rfl ?_
  refine L.nil ?_
  refine At.then ?_
  refine At.ret ?_
  exact At.ret1 [] rfl rfl ⟨rfl, rfl⟩ (Ent.refl _)
set_option maxRecDepth 10000 in
theorem number_errno (n : Int) : Does Tryz.prog Good 54 [.iface 48 (.int .i64 n)].toArray [] fun v m => v = .int .i64 n ∧ m = [] := by
  refine Does.body Tryz.func54 rfl rfl fun E fr hE => ?_
  refine At.app0 ?_
  refine At.seq ?_
  refine At.region ?_
  refine L.as rfl rfl ?_
  refine L.nil ?_
  refine At.then ?_
  refine At.seq ?_
  refine At.region ?_
  refine L.mv rfl rfl ?_
  refine L.op rfl (o_call rfl rfl rfl hE (told_errno n) (Ent.refl _) ?_)
  rintro v m ⟨rfl, rfl⟩
  refine At.app0 ?_
  refine L.mv rfl rfl ?_
  refine L.ex rfl rfl rfl ?_
  refine L.ex rfl rfl rfl ?_
  refine L.as rfl rfl ?_
  refine L.as rfl rfl ?_
  refine L.nil ?_
  refine At.then ?_
  refine At.seq ?_
  refine At.region ?_
  refine L.mv rfl rfl ?_
  refine L.as rfl rfl ?_
  refine L.nil ?_
  refine At.then ?_
  refine At.ret ?_
  exact At.ret1 [] rfl rfl ⟨rfl, rfl⟩ (Ent.refl _)
theorem errno_does (n : Int) : Does Tryz.prog Good 54 [errV n].toArray [] fun v m => v = .int .i64 n ∧ m = [] := by
  unfold errV
  split
  · subst n
    exact number_nil
  · exact number_errno n
theorem perm_erase {α : Type} {x : α} : ∀ {l : List α} {j : Nat}, l[j]? = some x → l.Perm (x :: l.eraseIdx j)
  | [], _, h => by simp at h
  | y :: l, 0, h => by simp at h; subst h; exact List.Perm.refl _
  | y :: l, j + 1, h => by
    have := perm_erase (l := l) (j := j) (by simpa using h)
    rw [List.eraseIdx_cons_succ]
    exact (List.Perm.cons y this).trans (List.Perm.swap x y _)
theorem Names.perm {P : List (Nat × ByteArray)} {M M' : List (ByteArray × Nat)} (h : M.Perm M') : ∀ {fs : FK.Fls}, Names P M fs → ∃ fs', Names P M' fs' ∧ fs'.Perm fs := by
  induction h with
  | nil => exact fun h => ⟨_, h, List.Perm.refl _⟩
  | cons x _ ih =>
    intro fs h
    cases h with
    | cons a t =>
      obtain ⟨fs', h1, h2⟩ := ih t
      exact ⟨_, .cons a h1, List.Perm.cons _ h2⟩
  | swap x y l =>
    intro fs h
    cases h with
    | cons a t =>
      cases t with
      | cons b t => exact ⟨_, .cons b (.cons a t), List.Perm.swap _ _ _⟩
  | trans _ _ ih1 ih2 =>
    intro fs h
    obtain ⟨f1, h1, h2⟩ := ih1 h
    obtain ⟨f2, h3, h4⟩ := ih2 h1
    exact ⟨f2, h3, h4.trans h2⟩
theorem Names.keys {P : List (Nat × ByteArray)} : ∀ {M : List (ByteArray × Nat)} {fs : FK.Fls}, Names P M fs → M.map (·.1) = fs.map (·.1)
  | _, _, .nil => rfl
  | _, _, .cons _ t => by simp only [List.map_cons, t.keys]
theorem kput_new {V : Type} {m : List (ByteArray × V)} {a : ByteArray} (h : a ∉ m.map (·.1)) (v : V) : FK.kput m a v = m ++ [(a, v)] := by
  refine FK.kput_none ?_ v
  unfold FK.kget
  have : m.find? (·.1 == a) = none := by
    rw [List.find?_eq_none]
    intro x hx he
    have := (MapKept.bytes_beq _ _).1 he
    exact h (by rw [← this]; exact List.mem_map_of_mem (f := (·.1)) hx)
  rw [this]
  rfl
set_option maxRecDepth 10000 in
set_option maxHeartbeats 1000000 in
theorem up_does {d md : Nat} {nv pv : Value} {l fu : Int} {dn : Bool} {P : List (Nat × ByteArray)} {dur : FK.Fls} (hn : (dur.map (·.1)).Nodup) : Does Tryz.prog G 62 [ptr d].toArray [blk d 131 #[.map (some md), nv, pv, .int .i64 l, .int .i64 fu, .bool dn], filesAt md P dur, pool P] fun v m => v = .tuple #[] ∧ ∃ now', now'.Perm dur ∧ m = [diskAt d ⟨dur, now', [], l, fu, false⟩] := by
  refine Does.body Tryz.func62 rfl rfl fun E fr hE => ?_
  refine At.app3 ?_
  refine At.ex (.tail .head) fun M => At.openAll ?_
  refine At.ent (l' := HP.pure (Names P M dur) :: vmap strV md (ptrM M) :: blk d 131 #[.map (some md), nv, pv, .int .i64 l, .int .i64 fu, .bool dn] :: pool P :: fr) (Ent.refl _) ?_
  refine At.pure .head fun hN => ?_
  have hMn : (M.map (·.1)).Nodup := by rw [hN.keys]; exact hn
  refine At.seq ?_
  refine At.region ?_
  refine L.mv rfl rfl ?_
  refine L.op rfl (o_makeVMap strV rfl fun b5 => ?_)
  refine L.nc rfl rfl ?_
  refine L.fa 1 rfl rfl rfl ?_
  refine L.st rfl rfl rfl rfl (by first | decide | simp | (simp; omega)) ?_
  refine At.blkAs d #[.map (some md), .map (some b5), pv, .int .i64 l, .int .i64 fu, .bool dn] rfl ?_
  refine L.nil ?_
  refine At.then ?_
  refine At.seq ?_
  refine At.seq ?_
  refine At.region ?_
  refine L.mv rfl rfl ?_
  refine L.nc rfl rfl ?_
  refine L.fa 0 rfl rfl rfl ?_
  refine L.ld rfl rfl rfl rfl ?_
  refine L.op rfl (o_range (b := md) (m := ptrM M) rfl rfl rfl (.tail (.tail .head)) fun it => ?_)
  refine L.nil ?_
  refine At.then ?_
  refine At.block ?_
  refine At.loop (X := List (ByteArray × Nat) × Option (ByteArray × Value) × List (ByteArray × Nat)) (fun _ => [(12, .pointer (some ⟨it, 0, none⟩)), (0, ptr d)]) (fun x => ranging strV it md (ptrM M) (ptrM x.1) x.2.1 :: vmap strV b5 (ptrM x.2.2) :: blk d 131 #[.map (some md), .map (some b5), pv, .int .i64 l, .int .i64 fu, .bool dn] :: pool P :: fr) (fun x => M.Perm (x.2.2 ++ x.1)) (fun x => x.1.length) (M, none, []) (List.Perm.refl _) ⟨rfl, rfl, trivial⟩ (by show Ent _ (ranging strV it md (ptrM M) (ptrM M) none :: vmap strV b5 [] :: blk d 131 #[.map (some md), .map (some b5), pv, .int .i64 l, .int .i64 fu, .bool dn] :: pool P :: fr); exact Ent.auto) ?_
  rintro ⟨left, cur, done⟩ hperm
  replace hperm : M.Perm (done ++ left) := hperm
  refine At.ent (l' := ranging strV it md (ptrM M) (ptrM left) cur :: vmap strV b5 (ptrM done) :: blk d 131 #[.map (some md), .map (some b5), pv, .int .i64 l, .int .i64 fu, .bool dn] :: pool P :: fr) (Ent.refl _) ?_
  refine At.seq ?_
  by_cases HL : left = []
  ·
    subst HL
    refine At.region ?_
    refine L.op rfl (o_next rfl rfl .head (fun _ => ?_) (fun j q hj => by simp at hj))
    refine L.ex rfl rfl rfl ?_
    refine L.nil ?_
    refine At.then ?_
    refine At.seq ?_
    refine At.condF rfl ?_
    refine At.exit ?_
    refine At.thenExit (At.roundExit (At.inBlockHit (At.then ?_)))
    refine At.seq ?_
    rw [List.append_nil] at hperm
    obtain ⟨now', hN', hpn⟩ := Names.perm hperm hN
    refine At.region ?_
    refine L.mv rfl rfl ?_
    refine L.nc rfl rfl ?_
    refine L.fa 2 rfl rfl rfl ?_
    refine L.st rfl rfl rfl rfl (by first | decide | simp | (simp; omega)) ?_
    refine L.nil ?_
    refine At.then ?_
    refine At.region ?_
    refine L.mv rfl rfl ?_
    refine L.nc rfl rfl ?_
    refine L.fa 5 rfl rfl rfl ?_
    refine L.st rfl rfl rfl rfl (by first | decide | simp | (simp; omega)) ?_
    refine L.nil ?_
    refine At.blkAs d (dskC ⟨md, b5, .slice none 0 0, P⟩ ⟨dur, now', [], l, fu, false⟩) rfl ?_
    refine At.end0 [diskAt d ⟨dur, now', [], l, fu, false⟩] rfl ⟨rfl, now', hpn, rfl⟩ ?_
    refine Ent.trans ?_ (Ent.closeDisk ⟨md, b5, .slice none 0 0, P⟩ ⟨dur, now', [], l, fu, false⟩)
    refine (Ent.sel (p := ranging strV it md (ptrM M) (ptrM []) none) (.tail .head)).trans (Ent.ranged.trans ((Ent.closeFiles hN).trans ?_))
    refine (Ent.sel (p := vmap strV b5 (ptrM done)) (.tail (.tail .head))).trans ((Ent.closeFiles hN').trans ?_)
    refine (Ent.row0 (e := 211) (size := 3)).trans ?_
    show Ent _ (blk d 131 (dskC ⟨md, b5, .slice none 0 0, P⟩ ⟨dur, now', [], l, fu, false⟩) :: filesAt md P dur :: filesAt b5 P now' :: pool P :: row 211 3 (.slice none 0 0) 0 [] :: fr)
    exact Ent.auto
  ·
    refine At.region ?_
    refine L.op rfl (o_next rfl rfl .head (fun h => absurd (List.map_eq_nil_iff.1 h) HL) (fun j q hj => ?_))
    obtain ⟨x, hx, rfl⟩ : ∃ x, left[j]? = some x ∧ (x.1, ptr x.2) = q := by
      rw [List.getElem?_map] at hj
      cases hl : left[j]? with
      | none => rw [hl] at hj; cases hj
      | some x => rw [hl] at hj; injection hj with hj; exact ⟨x, rfl, hj⟩
    have hjl := (List.getElem?_eq_some_iff.1 hx).1
    have hpe := perm_erase hx
    have hp2 : M.Perm ((done ++ [x]) ++ left.eraseIdx j) := by
      rw [List.append_assoc]
      exact hperm.trans (List.Perm.append_left done hpe)
    have hnew : x.1 ∉ done.map (·.1) := by
      have := (hp2.map (·.1)).nodup_iff.1 hMn
      rw [List.map_append, List.map_append, List.append_assoc, List.nodup_append] at this
      intro hm
      exact this.2.2 _ hm _ (by simp) rfl
    rw [← map_erase]
    refine L.ex rfl rfl rfl ?_
    refine L.nil ?_
    refine At.then ?_
    refine At.seq ?_
    refine At.condT rfl ?_
    refine At.skip ?_
    refine At.then ?_
    refine At.block ?_
    refine At.seq ?_
    refine At.region ?_
    refine L.val rfl (ev_entry (p := (x.1, ptr x.2)) rfl) (rangeIs .head) ?_
    refine L.ex rfl rfl rfl ?_
    refine L.ex rfl rfl rfl ?_
    refine L.as rfl rfl ?_
    refine L.as rfl rfl ?_
    refine L.nil ?_
    refine At.then ?_
    refine At.region ?_
    refine L.mv rfl rfl ?_
    refine L.nc rfl rfl ?_
    refine L.fa 1 rfl rfl rfl ?_
    refine L.ld rfl rfl rfl rfl ?_
    refine L.mv rfl rfl ?_
    refine L.mv rfl rfl ?_
    refine L.op rfl (o_vput (a := x.1) (v := ptr x.2) rfl rfl strKey rfl rfl rfl (.tail .head) ?_)
    rw [ptrM_put, kput_new hnew]
    refine L.nil ?_
    refine At.inBlock ?_
    exact At.round (left.eraseIdx j, some (x.1, ptr x.2), done ++ [x]) hp2 (by show (left.eraseIdx j).length < left.length; rw [List.length_eraseIdx_of_lt hjl]; omega) ⟨rfl, rfl, trivial⟩ (by show Ent _ (ranging strV it md (ptrM M) (ptrM (left.eraseIdx j)) (some (x.1, ptr x.2)) :: vmap strV b5 (ptrM (done ++ [x])) :: blk d 131 #[.map (some md), .map (some b5), pv, .int .i64 l, .int .i64 fu, .bool dn] :: pool P :: fr); exact Ent.auto)
set_option maxRecDepth 10000 in
theorem newHost_does : Does Tryz.prog G 27 [].toArray [] fun v m => ∃ h d, v = ptr h ∧ m = [hostB h d none, diskAt d ⟨[], [], [], -1, -1, false⟩] := by
  refine Does.body Tryz.func27 rfl rfl fun E fr hE => ?_
  refine At.app0 ?_
  refine At.seq ?_
  refine At.region ?_
  refine L.as rfl rfl ?_
  refine L.nil ?_
  refine At.then ?_
  refine At.seq ?_
  refine At.region ?_
  refine L.op rfl (o_makeVMap strV rfl fun b2 => ?_)
  refine L.pure rfl (ev_build (ps := [(0, .tmp 2), (3, .const (.int .i64 (-1))), (4, .const (.int .i64 (-1)))]) (vs := [.map (some b2), .int .i64 (-1), .int .i64 (-1)]) (cs := #[.map (some b2), .map none, .slice none 0 0, .int .i64 (-1), .int .i64 (-1), .bool false]) rfl rfl rfl rfl rfl) ?_
  refine L.op rfl (o_box rfl rfl fun b4 => ?_)
  refine L.pure rfl (ev_build (ps := [(0, .tmp 4)]) (vs := [ptr b4]) (cs := #[ptr b4, .pointer none]) rfl rfl rfl rfl rfl) ?_
  refine L.op rfl (o_box rfl rfl fun b6 => ?_)
  refine L.as rfl rfl ?_
  refine L.nil ?_
  refine At.then ?_
  refine At.seq ?_
  refine At.region ?_
  refine L.mv rfl rfl ?_
  refine L.nc rfl rfl ?_
  refine L.fa 0 rfl rfl rfl ?_
  refine L.ld rfl rfl rfl rfl ?_
  refine L.op rfl (o_call rfl rfl rfl hE (up_does (md := b2) (P := []) (dur := []) (by simp)) ((Ent.sel2 (.tail .head) (.tail .head)).trans (Ent.cons ((Ent.closeFiles (M := []) .nil).trans (Ent.cons (Ent.all (m := [])))))) ?_)
  rintro v m ⟨rfl, now', hpn, rfl⟩
  refine At.app1 ?_
  refine L.nil ?_
  refine At.then ?_
  refine At.seq ?_
  refine At.region ?_
  refine L.mv rfl rfl ?_
  refine L.as rfl rfl ?_
  refine L.nil ?_
  refine At.then ?_
  refine At.ret ?_
  have hz : now' = [] := List.Perm.eq_nil hpn
  subst hz
  exact At.ret1 [hostB b6 b4 none, diskAt b4 ⟨[], [], [], -1, -1, false⟩] rfl rfl ⟨b6, b4, rfl, rfl⟩ (Ent.sel (.tail .head))
end Go.Proofs.YtmeegfamopaljaaGreatDoor
