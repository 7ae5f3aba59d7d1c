/- errors.As, errors.Is, Told: their walks. -/
import Derived.Test.YtagkobkmaigfcaaDoorAlG
import Derived.Test.YtagkobkmaigfcaaDoorAlH
import Derived.Test.YtagkobkmaigfcaaDoorAlM
namespace Go.Proofs.YtagkobkmaigfcaaDoor
open Go Go.RowKit Go.SL Go.Extern

set_option maxRecDepth 10000
set_option maxHeartbeats 4000000

theorem as_nil (t : Value) : Does Tryd.prog Good 53 [.nilIface, t].toArray [] fun v m => v = .bool false ∧ m = [] := by
  refine Does.body Tryd.func53 rfl rfl fun E fr hE => ?_
  refine At.app0 ?_
  refine At.seq ?_
  refine At.region ?_
  refine L.as rfl rfl ?_
  refine L.nil ?_
  refine At.then ?_
  refine At.seq ?_
  refine At.seq ?_
  refine At.region ?_
  refine L.mv rfl rfl ?_
  refine L.pure rfl (ev_eqlNil0 rfl rfl) ?_
  refine L.nil ?_
  refine At.then ?_
  refine At.condT rfl ?_
  refine At.seq ?_
  refine At.region ?_
  refine L.as rfl rfl ?_
  refine L.nil ?_
  refine At.then ?_
  refine At.ret ?_
  refine At.thenRet ?_
  exact At.ret1 [] rfl rfl ⟨rfl, rfl⟩ (Ent.refl _)
  -- unused hints: ['plain']

theorem asF_hit (e : Addr) (t bv : Nat) (o : Value) : Does Tryd.prog Good 79 [.iface 95 (.pointer (some e)), .iface 97 (.pointer (some ⟨t, 0, none⟩)), rv 97 bv 150, rt 95].toArray [blk bv 97 #[.pointer (some ⟨t, 0, none⟩)], blk t 95 #[o]] fun v m => v = .bool true ∧ m = [blk t 95 #[.pointer (some e)]] := by
  refine Does.body Tryd.func79 rfl rfl fun E fr hE => ?_
  refine At.app2 ?_
  refine At.seq ?_
  refine At.region ?_
  refine L.op rfl (o_box rfl rfl fun b6 => ?_)
  refine L.as rfl rfl ?_
  refine L.nil ?_
  refine At.then ?_
  refine At.block ?_
  refine At.loop (X := Unit) (fun _ => [(0, .iface 95 (.pointer (some e))), (1, .iface 97 (.pointer (some ⟨t, 0, none⟩))), (3, rt 95), (6, .pointer (some ⟨b6, 0, none⟩))]) (fun _ => blk b6 141 #[hnd 97, .pointer (some ⟨bv, 0, none⟩), .int .u64 150] :: blk bv 97 #[.pointer (some ⟨t, 0, none⟩)] :: blk t 95 #[o] :: fr) (fun _ => True) (fun _ => 0) () trivial ⟨rfl, rfl, rfl, rfl, trivial⟩ (Ent.refl _) ?_
  rintro _ _
  refine At.block ?_
  refine At.seq ?_
  refine At.seq ?_
  refine At.region ?_
  refine L.mv rfl rfl ?_
  refine L.pure rfl (ev_ext rfl fun w _ => typeOfF _ w) ?_
  refine L.mv rfl rfl ?_
  refine L.pure rfl (ev_mext rfl rfl (mAssignableTo _) fun w _ => assignableF w) ?_
  refine L.nil ?_
  refine At.then ?_
  refine At.condT rfl ?_
  refine At.seq ?_
  refine At.region ?_
  refine L.val rfl (ev_loadN (vs := [hnd 97, .pointer (some ⟨bv, 0, none⟩), .int .u64 150]) rfl rfl rfl rfl) (rowAll rfl) ?_
  refine L.val rfl (ev_ext (args := [rv 97 bv 150]) rfl fun w h => elemVF bv t w h) (cellIs rfl) ?_
  refine L.mv rfl rfl ?_
  refine L.op rfl (o_ext (v := fun b => rv 95 b 150) rfl rfl (fun w => valueOfF e w) fun b23 => ?_)
  refine L.op rfl (o_extSet1 (args := [rv 95 t 406, rv 95 b23 150]) rfl (b := t) (j := 0) (tb := 95) (cs := #[o]) (u := .tuple #[]) (v := .pointer (some e)) (φ := CellIs ⟨b23, 0, none⟩ (.pointer (some e))) rfl (cellIs (b := b23) rfl) (fun w h1 h2 => setF t b23 e o w h1 h2) ?_)
  refine L.nil ?_
  refine At.then ?_
  refine At.seq ?_
  refine At.region ?_
  refine L.as rfl rfl ?_
  refine L.nil ?_
  refine At.then ?_
  refine At.ret ?_
  refine At.thenRet (At.inBlockRet (At.roundRet (At.inBlockRet ?_)))
  exact At.ret1 [blk t 95 #[.pointer (some e)]] rfl rfl ⟨rfl, rfl⟩ (Ent.cons (Ent.drop.trans (Ent.drop.trans Ent.drop)))
  -- unused hints: ['plain']

theorem asN_hit (e : Int) (t bv : Nat) (o : Value) : Does Tryd.prog Good 79 [.iface 26 (.int .i64 e), .iface 101 (.pointer (some ⟨t, 0, none⟩)), rv 101 bv 150, rt 26].toArray [blk bv 101 #[.pointer (some ⟨t, 0, none⟩)], blk t 26 #[o]] fun v m => v = .bool true ∧ m = [blk t 26 #[.int .i64 e]] := by
  refine Does.body Tryd.func79 rfl rfl fun E fr hE => ?_
  refine At.app2 ?_
  refine At.seq ?_
  refine At.region ?_
  refine L.op rfl (o_box rfl rfl fun b6 => ?_)
  refine L.as rfl rfl ?_
  refine L.nil ?_
  refine At.then ?_
  refine At.block ?_
  refine At.loop (X := Unit) (fun _ => [(0, .iface 26 (.int .i64 e)), (1, .iface 101 (.pointer (some ⟨t, 0, none⟩))), (3, rt 26), (6, .pointer (some ⟨b6, 0, none⟩))]) (fun _ => blk b6 141 #[hnd 101, .pointer (some ⟨bv, 0, none⟩), .int .u64 150] :: blk bv 101 #[.pointer (some ⟨t, 0, none⟩)] :: blk t 26 #[o] :: fr) (fun _ => True) (fun _ => 0) () trivial ⟨rfl, rfl, rfl, rfl, trivial⟩ (Ent.refl _) ?_
  rintro _ _
  refine At.block ?_
  refine At.seq ?_
  refine At.seq ?_
  refine At.region ?_
  refine L.mv rfl rfl ?_
  refine L.pure rfl (ev_ext rfl fun w _ => typeOfN _ w) ?_
  refine L.mv rfl rfl ?_
  refine L.pure rfl (ev_mext rfl rfl (mAssignableTo _) fun w _ => assignableN w) ?_
  refine L.nil ?_
  refine At.then ?_
  refine At.condT rfl ?_
  refine At.seq ?_
  refine At.region ?_
  refine L.val rfl (ev_loadN (vs := [hnd 101, .pointer (some ⟨bv, 0, none⟩), .int .u64 150]) rfl rfl rfl rfl) (rowAll rfl) ?_
  refine L.val rfl (ev_ext (args := [rv 101 bv 150]) rfl fun w h => elemVN bv t w h) (cellIs rfl) ?_
  refine L.mv rfl rfl ?_
  refine L.op rfl (o_ext (v := fun b => rv 26 b 130) rfl rfl (fun w => valueOfN e w) fun b23 => ?_)
  refine L.op rfl (o_extSet1 (args := [rv 26 t 386, rv 26 b23 130]) rfl (b := t) (j := 0) (tb := 26) (cs := #[o]) (u := .tuple #[]) (v := .int .i64 e) (φ := CellIs ⟨b23, 0, none⟩ (.int .i64 e)) rfl (cellIs (b := b23) rfl) (fun w h1 h2 => setN t b23 e o w h1 h2) ?_)
  refine L.nil ?_
  refine At.then ?_
  refine At.seq ?_
  refine At.region ?_
  refine L.as rfl rfl ?_
  refine L.nil ?_
  refine At.then ?_
  refine At.ret ?_
  refine At.thenRet (At.inBlockRet (At.roundRet (At.inBlockRet ?_)))
  exact At.ret1 [blk t 26 #[.int .i64 e]] rfl rfl ⟨rfl, rfl⟩ (Ent.cons (Ent.drop.trans (Ent.drop.trans Ent.drop)))
  -- unused hints: ['plain']

theorem asNF_miss (x : Int) (t bv : Nat) (o : Value) : Does Tryd.prog Good 79 [.iface 26 (.int .i64 x), .iface 97 (.pointer (some ⟨t, 0, none⟩)), rv 97 bv 150, rt 95].toArray [blk bv 97 #[.pointer (some ⟨t, 0, none⟩)], blk t 95 #[o]] fun v m => v = .bool false ∧ m = [blk t 95 #[o]] := by
  refine Does.body Tryd.func79 rfl rfl fun E fr hE => ?_
  refine At.app2 ?_
  refine At.seq ?_
  refine At.region ?_
  refine L.op rfl (o_box rfl rfl fun b6 => ?_)
  refine L.as rfl rfl ?_
  refine L.nil ?_
  refine At.then ?_
  refine At.block ?_
  refine At.loop (X := Unit) (fun _ => [(0, .iface 26 (.int .i64 x)), (1, .iface 97 (.pointer (some ⟨t, 0, none⟩))), (3, rt 95), (6, .pointer (some ⟨b6, 0, none⟩))]) (fun _ => blk b6 141 #[hnd 97, .pointer (some ⟨bv, 0, none⟩), .int .u64 150] :: blk bv 97 #[.pointer (some ⟨t, 0, none⟩)] :: blk t 95 #[o] :: fr) (fun _ => True) (fun _ => 0) () trivial ⟨rfl, rfl, rfl, rfl, trivial⟩ (Ent.refl _) ?_
  rintro _ _
  refine At.block ?_
  refine At.seq ?_
  refine At.seq ?_
  refine At.region ?_
  refine L.mv rfl rfl ?_
  refine L.pure rfl (ev_ext rfl fun w _ => typeOfN _ w) ?_
  refine L.mv rfl rfl ?_
  refine L.pure rfl (ev_mext rfl rfl (mAssignableTo _) fun w _ => assignableNF w) ?_
  refine L.nil ?_
  refine At.then ?_
  refine At.condF rfl ?_
  refine At.skip ?_
  refine At.then ?_
  refine At.seq ?_
  refine At.seq ?_
  refine At.region ?_
  refine L.mv rfl rfl ?_
  refine L.pure rfl (ev_asINot (z := .nilIface) rfl rfl (by kernel_rfl) (by kernel_rfl)) ?_
  refine L.mv rfl rfl ?_
  refine L.ex rfl rfl rfl ?_
  refine L.ex rfl rfl rfl ?_
  refine L.as rfl rfl ?_
  refine L.as rfl rfl ?_
  refine L.nil ?_
  refine At.then ?_
  refine At.seq ?_
  refine At.region ?_
  refine L.mv rfl rfl ?_
  refine L.mv rfl rfl ?_
  refine L.off rfl rfl rfl rfl rfl rfl ?_
  refine L.off rfl rfl rfl rfl rfl rfl ?_
  refine L.off rfl rfl rfl rfl rfl rfl ?_
  refine L.pure rfl (ev_pick rfl rfl rfl) ?_
  refine L.nil ?_
  refine At.then ?_
  refine At.condF rfl ?_
  refine At.skip ?_
  refine At.then ?_
  refine At.seq ?_
  refine At.region ?_
  refine L.mv rfl rfl ?_
  refine L.nil ?_
  refine At.then ?_
  refine At.block ?_
  refine At.seq ?_
  refine At.region ?_
  refine L.pure rfl (ev_asINot (z := .nilIface) rfl rfl (by kernel_rfl) (by kernel_rfl)) ?_
  refine L.ex rfl rfl rfl ?_
  refine L.ex rfl rfl rfl ?_
  refine L.nil ?_
  refine At.then ?_
  refine At.condF rfl ?_
  refine At.seq ?_
  refine At.region ?_
  refine L.pure rfl (ev_asINot (z := .nilIface) rfl rfl (by kernel_rfl) (by kernel_rfl)) ?_
  refine L.ex rfl rfl rfl ?_
  refine L.ex rfl rfl rfl ?_
  refine L.nil ?_
  refine At.then ?_
  refine At.condF rfl ?_
  refine At.seq ?_
  refine At.region ?_
  refine L.as rfl rfl ?_
  refine L.nil ?_
  refine At.then ?_
  refine At.seq ?_
  refine At.region ?_
  refine L.as rfl rfl ?_
  refine L.nil ?_
  refine At.then ?_
  refine At.ret ?_
  refine At.inBlockRet (At.inBlockRet (At.roundRet (At.inBlockRet ?_)))
  exact At.ret1 [blk t 95 #[o]] rfl rfl ⟨rfl, rfl⟩ (Ent.drop.trans Ent.drop)

theorem As_fault (e : Addr) (t : Nat) (o : Value) : Does Tryd.prog Good 53 [.iface 95 (.pointer (some e)), .iface 97 (.pointer (some ⟨t, 0, none⟩))].toArray [blk t 95 #[o]] fun v m => v = .bool true ∧ m = [blk t 95 #[.pointer (some e)]] := by
  refine Does.body Tryd.func53 rfl rfl fun E fr hE => ?_
  refine At.app1 ?_
  refine At.seq ?_
  refine At.region ?_
  refine L.as rfl rfl ?_
  refine L.nil ?_
  refine At.then ?_
  refine At.seq ?_
  refine At.seq ?_
  refine At.region ?_
  refine L.mv rfl rfl ?_
  refine L.pure rfl (ev_eqlNil rfl rfl) ?_
  refine L.nil ?_
  refine At.then ?_
  refine At.condF rfl ?_
  refine At.skip ?_
  refine At.then ?_
  refine At.seq ?_
  refine At.seq ?_
  refine At.region ?_
  refine L.mv rfl rfl ?_
  refine L.pure rfl (ev_eqlNil rfl rfl) ?_
  refine L.nil ?_
  refine At.then ?_
  refine At.condF rfl ?_
  refine At.skip ?_
  refine At.then ?_
  refine At.seq ?_
  refine At.region ?_
  refine L.mv rfl rfl ?_
  refine L.op rfl (o_ext (v := fun b => rv 97 b 150) rfl rfl (fun w => valueOfPF t w) fun bv => ?_)
  refine L.op rfl (o_alloc (z := .agg #[.pointer none, .pointer none, .int .u64 0]) rfl rfl fun b5 => ?_)
  refine L.op rfl (o_storeN rfl (m := 3) (vs := [hnd 97, .pointer (some ⟨bv, 0, none⟩), .int .u64 150]) rfl rfl rfl rfl (by simp [Value.oneCell']) (by simp [Value.cells]) ?_)
  refine L.nil ?_
  refine At.then ?_
  refine At.seq ?_
  refine At.region ?_
  refine L.val rfl (ev_loadN (vs := [hnd 97, .pointer (some ⟨bv, 0, none⟩), .int .u64 150]) rfl rfl rfl rfl) (rowAll rfl) ?_
  refine L.pure rfl (ev_ext rfl fun w _ => typePF bv w) ?_
  refine L.as rfl rfl ?_
  refine L.nil ?_
  refine At.then ?_
  refine At.seq ?_
  refine At.seq ?_
  refine At.region ?_
  refine L.mv rfl rfl ?_
  refine L.pure rfl (ev_mext rfl rfl (mKind _) fun w _ => kindPF w) ?_
  refine L.pure rfl (ev_neq rfl rfl rfl) ?_
  refine L.mv rfl rfl ?_
  refine L.on rfl rfl rfl (L.vala rfl (ev_loadN (vs := [hnd 97, .pointer (some ⟨bv, 0, none⟩), .int .u64 150]) rfl rfl rfl rfl) (rowAll rfl) ?_)
  refine L.on rfl rfl rfl (L.vala rfl (ev_ext (args := [rv 97 bv 150]) (φ := CellIs ⟨bv, 0, none⟩ (.pointer (some ⟨t, 0, none⟩))) rfl fun w h => isNilPF bv t w h) (cellIs rfl) ?_)
  refine L.pure rfl (ev_pick rfl rfl rfl) ?_
  refine L.nil ?_
  refine At.then ?_
  refine At.condF rfl ?_
  refine At.skip ?_
  refine At.then ?_
  refine At.seq ?_
  refine At.region ?_
  refine L.mv rfl rfl ?_
  refine L.pure rfl (ev_mext rfl rfl (mElem _) fun w _ => elemPF w) ?_
  refine L.as rfl rfl ?_
  refine L.nil ?_
  refine At.then ?_
  refine At.seq ?_
  refine At.seq ?_
  refine At.region ?_
  refine L.mv rfl rfl ?_
  refine L.pure rfl (ev_mext rfl rfl (mKind _) fun w _ => kindF w) ?_
  refine L.pure rfl (ev_neq rfl rfl rfl) ?_
  refine L.mv rfl rfl ?_
  refine L.on rfl rfl rfl (L.vala rfl (ev_move rfl) (fun _ _ => trivial) ?_)
  refine L.on rfl rfl rfl (L.vala rfl (ev_load1 rfl rfl) (fun w hw => hE.err w hw.is) ?_)
  refine L.on rfl rfl rfl (L.vala rfl (ev_mext rfl rfl (mImplements _) fun w _ => implementsF w) (fun _ _ => trivial) ?_)
  refine L.on rfl rfl rfl (L.vala rfl (ev_not rfl rfl) (fun _ _ => trivial) ?_)
  refine L.pure rfl (ev_pick rfl rfl rfl) ?_
  refine L.nil ?_
  refine At.then ?_
  refine At.condF rfl ?_
  refine At.skip ?_
  refine At.then ?_
  refine At.seq ?_
  refine At.region ?_
  refine L.mv rfl rfl ?_
  refine L.mv rfl rfl ?_
  refine L.val rfl (ev_loadN (vs := [hnd 97, .pointer (some ⟨bv, 0, none⟩), .int .u64 150]) rfl rfl rfl rfl) (rowAll rfl) ?_
  refine L.mv rfl rfl ?_
  refine L.op rfl (o_call rfl rfl rfl hE (asF_hit e t bv o) (Ent.sel2 (.tail (.head)) (.tail (.head))) ?_)
  rintro v m ⟨rfl, rfl⟩
  refine At.app1 ?_
  refine L.as rfl rfl ?_
  refine L.nil ?_
  refine At.then ?_
  refine At.ret ?_
  exact At.ret1 [blk t 95 #[.pointer (some e)]] rfl rfl ⟨rfl, rfl⟩ (Ent.cons Ent.drop)

theorem As_errno (e : Int) (t : Nat) (o : Value) : Does Tryd.prog Good 53 [.iface 26 (.int .i64 e), .iface 101 (.pointer (some ⟨t, 0, none⟩))].toArray [blk t 26 #[o]] fun v m => v = .bool true ∧ m = [blk t 26 #[.int .i64 e]] := by
  refine Does.body Tryd.func53 rfl rfl fun E fr hE => ?_
  refine At.app1 ?_
  refine At.seq ?_
  refine At.region ?_
  refine L.as rfl rfl ?_
  refine L.nil ?_
  refine At.then ?_
  refine At.seq ?_
  refine At.seq ?_
  refine At.region ?_
  refine L.mv rfl rfl ?_
  refine L.pure rfl (ev_eqlNil rfl rfl) ?_
  refine L.nil ?_
  refine At.then ?_
  refine At.condF rfl ?_
  refine At.skip ?_
  refine At.then ?_
  refine At.seq ?_
  refine At.seq ?_
  refine At.region ?_
  refine L.mv rfl rfl ?_
  refine L.pure rfl (ev_eqlNil rfl rfl) ?_
  refine L.nil ?_
  refine At.then ?_
  refine At.condF rfl ?_
  refine At.skip ?_
  refine At.then ?_
  refine At.seq ?_
  refine At.region ?_
  refine L.mv rfl rfl ?_
  refine L.op rfl (o_ext (v := fun b => rv 101 b 150) rfl rfl (fun w => valueOfPN t w) fun bv => ?_)
  refine L.op rfl (o_alloc (z := .agg #[.pointer none, .pointer none, .int .u64 0]) rfl rfl fun b5 => ?_)
  refine L.op rfl (o_storeN rfl (m := 3) (vs := [hnd 101, .pointer (some ⟨bv, 0, none⟩), .int .u64 150]) rfl rfl rfl rfl (by simp [Value.oneCell']) (by simp [Value.cells]) ?_)
  refine L.nil ?_
  refine At.then ?_
  refine At.seq ?_
  refine At.region ?_
  refine L.val rfl (ev_loadN (vs := [hnd 101, .pointer (some ⟨bv, 0, none⟩), .int .u64 150]) rfl rfl rfl rfl) (rowAll rfl) ?_
  refine L.pure rfl (ev_ext rfl fun w _ => typePN bv w) ?_
  refine L.as rfl rfl ?_
  refine L.nil ?_
  refine At.then ?_
  refine At.seq ?_
  refine At.seq ?_
  refine At.region ?_
  refine L.mv rfl rfl ?_
  refine L.pure rfl (ev_mext rfl rfl (mKind _) fun w _ => kindPN w) ?_
  refine L.pure rfl (ev_neq rfl rfl rfl) ?_
  refine L.mv rfl rfl ?_
  refine L.on rfl rfl rfl (L.vala rfl (ev_loadN (vs := [hnd 101, .pointer (some ⟨bv, 0, none⟩), .int .u64 150]) rfl rfl rfl rfl) (rowAll rfl) ?_)
  refine L.on rfl rfl rfl (L.vala rfl (ev_ext (args := [rv 101 bv 150]) (φ := CellIs ⟨bv, 0, none⟩ (.pointer (some ⟨t, 0, none⟩))) rfl fun w h => isNilPN bv t w h) (cellIs rfl) ?_)
  refine L.pure rfl (ev_pick rfl rfl rfl) ?_
  refine L.nil ?_
  refine At.then ?_
  refine At.condF rfl ?_
  refine At.skip ?_
  refine At.then ?_
  refine At.seq ?_
  refine At.region ?_
  refine L.mv rfl rfl ?_
  refine L.pure rfl (ev_mext rfl rfl (mElem _) fun w _ => elemPN w) ?_
  refine L.as rfl rfl ?_
  refine L.nil ?_
  refine At.then ?_
  refine At.seq ?_
  refine At.seq ?_
  refine At.region ?_
  refine L.mv rfl rfl ?_
  refine L.pure rfl (ev_mext rfl rfl (mKind _) fun w _ => kindN w) ?_
  refine L.pure rfl (ev_neq rfl rfl rfl) ?_
  refine L.mv rfl rfl ?_
  refine L.on rfl rfl rfl (L.vala rfl (ev_move rfl) (fun _ _ => trivial) ?_)
  refine L.on rfl rfl rfl (L.vala rfl (ev_load1 rfl rfl) (fun w hw => hE.err w hw.is) ?_)
  refine L.on rfl rfl rfl (L.vala rfl (ev_mext rfl rfl (mImplements _) fun w _ => implementsN w) (fun _ _ => trivial) ?_)
  refine L.on rfl rfl rfl (L.vala rfl (ev_not rfl rfl) (fun _ _ => trivial) ?_)
  refine L.pure rfl (ev_pick rfl rfl rfl) ?_
  refine L.nil ?_
  refine At.then ?_
  refine At.condF rfl ?_
  refine At.skip ?_
  refine At.then ?_
  refine At.seq ?_
  refine At.region ?_
  refine L.mv rfl rfl ?_
  refine L.mv rfl rfl ?_
  refine L.val rfl (ev_loadN (vs := [hnd 101, .pointer (some ⟨bv, 0, none⟩), .int .u64 150]) rfl rfl rfl rfl) (rowAll rfl) ?_
  refine L.mv rfl rfl ?_
  refine L.op rfl (o_call rfl rfl rfl hE (asN_hit e t bv o) (Ent.sel2 (.tail (.head)) (.tail (.head))) ?_)
  rintro v m ⟨rfl, rfl⟩
  refine At.app1 ?_
  refine L.as rfl rfl ?_
  refine L.nil ?_
  refine At.then ?_
  refine At.ret ?_
  exact At.ret1 [blk t 26 #[.int .i64 e]] rfl rfl ⟨rfl, rfl⟩ (Ent.cons Ent.drop)

theorem As_miss (x : Int) (t : Nat) (o : Value) : Does Tryd.prog Good 53 [.iface 26 (.int .i64 x), .iface 97 (.pointer (some ⟨t, 0, none⟩))].toArray [blk t 95 #[o]] fun v m => v = .bool false ∧ m = [blk t 95 #[o]] := by
  refine Does.body Tryd.func53 rfl rfl fun E fr hE => ?_
  refine At.app1 ?_
  refine At.seq ?_
  refine At.region ?_
  refine L.as rfl rfl ?_
  refine L.nil ?_
  refine At.then ?_
  refine At.seq ?_
  refine At.seq ?_
  refine At.region ?_
  refine L.mv rfl rfl ?_
  refine L.pure rfl (ev_eqlNil rfl rfl) ?_
  refine L.nil ?_
  refine At.then ?_
  refine At.condF rfl ?_
  refine At.skip ?_
  refine At.then ?_
  refine At.seq ?_
  refine At.seq ?_
  refine At.region ?_
  refine L.mv rfl rfl ?_
  refine L.pure rfl (ev_eqlNil rfl rfl) ?_
  refine L.nil ?_
  refine At.then ?_
  refine At.condF rfl ?_
  refine At.skip ?_
  refine At.then ?_
  refine At.seq ?_
  refine At.region ?_
  refine L.mv rfl rfl ?_
  refine L.op rfl (o_ext (v := fun b => rv 97 b 150) rfl rfl (fun w => valueOfPF t w) fun bv => ?_)
  refine L.op rfl (o_alloc (z := .agg #[.pointer none, .pointer none, .int .u64 0]) rfl rfl fun b5 => ?_)
  refine L.op rfl (o_storeN rfl (m := 3) (vs := [hnd 97, .pointer (some ⟨bv, 0, none⟩), .int .u64 150]) rfl rfl rfl rfl (by simp [Value.oneCell']) (by simp [Value.cells]) ?_)
  refine L.nil ?_
  refine At.then ?_
  refine At.seq ?_
  refine At.region ?_
  refine L.val rfl (ev_loadN (vs := [hnd 97, .pointer (some ⟨bv, 0, none⟩), .int .u64 150]) rfl rfl rfl rfl) (rowAll rfl) ?_
  refine L.pure rfl (ev_ext rfl fun w _ => typePF bv w) ?_
  refine L.as rfl rfl ?_
  refine L.nil ?_
  refine At.then ?_
  refine At.seq ?_
  refine At.seq ?_
  refine At.region ?_
  refine L.mv rfl rfl ?_
  refine L.pure rfl (ev_mext rfl rfl (mKind _) fun w _ => kindPF w) ?_
  refine L.pure rfl (ev_neq rfl rfl rfl) ?_
  refine L.mv rfl rfl ?_
  refine L.on rfl rfl rfl (L.vala rfl (ev_loadN (vs := [hnd 97, .pointer (some ⟨bv, 0, none⟩), .int .u64 150]) rfl rfl rfl rfl) (rowAll rfl) ?_)
  refine L.on rfl rfl rfl (L.vala rfl (ev_ext (args := [rv 97 bv 150]) (φ := CellIs ⟨bv, 0, none⟩ (.pointer (some ⟨t, 0, none⟩))) rfl fun w h => isNilPF bv t w h) (cellIs rfl) ?_)
  refine L.pure rfl (ev_pick rfl rfl rfl) ?_
  refine L.nil ?_
  refine At.then ?_
  refine At.condF rfl ?_
  refine At.skip ?_
  refine At.then ?_
  refine At.seq ?_
  refine At.region ?_
  refine L.mv rfl rfl ?_
  refine L.pure rfl (ev_mext rfl rfl (mElem _) fun w _ => elemPF w) ?_
  refine L.as rfl rfl ?_
  refine L.nil ?_
  refine At.then ?_
  refine At.seq ?_
  refine At.seq ?_
  refine At.region ?_
  refine L.mv rfl rfl ?_
  refine L.pure rfl (ev_mext rfl rfl (mKind _) fun w _ => kindF w) ?_
  refine L.pure rfl (ev_neq rfl rfl rfl) ?_
  refine L.mv rfl rfl ?_
  refine L.on rfl rfl rfl (L.vala rfl (ev_move rfl) (fun _ _ => trivial) ?_)
  refine L.on rfl rfl rfl (L.vala rfl (ev_load1 rfl rfl) (fun w hw => hE.err w hw.is) ?_)
  refine L.on rfl rfl rfl (L.vala rfl (ev_mext rfl rfl (mImplements _) fun w _ => implementsF w) (fun _ _ => trivial) ?_)
  refine L.on rfl rfl rfl (L.vala rfl (ev_not rfl rfl) (fun _ _ => trivial) ?_)
  refine L.pure rfl (ev_pick rfl rfl rfl) ?_
  refine L.nil ?_
  refine At.then ?_
  refine At.condF rfl ?_
  refine At.skip ?_
  refine At.then ?_
  refine At.seq ?_
  refine At.region ?_
  refine L.mv rfl rfl ?_
  refine L.mv rfl rfl ?_
  refine L.val rfl (ev_loadN (vs := [hnd 97, .pointer (some ⟨bv, 0, none⟩), .int .u64 150]) rfl rfl rfl rfl) (rowAll rfl) ?_
  refine L.mv rfl rfl ?_
  refine L.op rfl (o_call rfl rfl rfl hE (asNF_miss x t bv o) (Ent.sel2 (.tail (.head)) (.tail (.head))) ?_)
  rintro v m ⟨rfl, rfl⟩
  refine At.app1 ?_
  refine L.as rfl rfl ?_
  refine L.nil ?_
  refine At.then ?_
  refine At.ret ?_
  exact At.ret1 [blk t 95 #[o]] rfl rfl ⟨rfl, rfl⟩ (Ent.cons Ent.drop)
end Go.Proofs.YtagkobkmaigfcaaDoor

/- errors.Is at a fault and at a number; plain.Told. -/
namespace Go.Proofs.YtagkobkmaigfcaaDoor
open Go Go.RowKit Go.SL Go.Extern

set_option maxRecDepth 10000
set_option maxHeartbeats 4000000

theorem unwrap_does {G : Env → Prop} (b : Nat) (e a : Value) : Does Tryd.prog G 123 [.pointer (some ⟨b, 0, none⟩)].toArray [blk b 100 #[e, a]] fun v m => v = .iface 26 e ∧ m = [blk b 100 #[e, a]] := by
  refine Does.body Tryd.func123 rfl rfl fun E fr hE => ?_
  refine At.app1 ?_
  refine At.seq ?_
  refine At.region ?_
  refine L.as rfl rfl ?_
  refine L.nil ?_
  refine At.then ?_
  refine At.seq ?_
  refine At.region ?_
  refine L.mv rfl rfl ?_
  refine L.nc rfl rfl ?_
  refine L.fa 0 rfl rfl rfl ?_
  refine L.ld rfl rfl rfl rfl ?_
  refine L.pure rfl (ev_iface rfl rfl rfl) ?_
  refine L.as rfl rfl ?_
  refine L.nil ?_
  refine At.then ?_
  refine At.ret ?_
  exact At.ret1 [_] rfl rfl ⟨rfl, rfl⟩ (Ent.refl _)

theorem is_errno_in (e : Int) : Does Tryd.prog Good 81 [.iface 26 (.int .i64 e), .iface 26 (.int .i64 e), .bool true].toArray [] fun v m => v = .bool true ∧ m = [] := by
  refine Does.body Tryd.func81 rfl rfl fun E fr hE => ?_
  refine At.app0 ?_
  refine At.seq ?_
  refine At.region ?_
  refine L.as rfl rfl ?_
  refine L.nil ?_
  refine At.then ?_
  refine At.block ?_
  refine At.loop (X := Unit) (fun _ => [(0, .iface 26 (.int .i64 e)), (1, .iface 26 (.int .i64 e)), (2, .bool true)]) (fun _ => fr) (fun _ => True) (fun _ => 0) () trivial ⟨rfl, rfl, rfl, trivial⟩ (Ent.refl _) ?_
  rintro _ _
  refine At.block ?_
  refine At.seq ?_
  refine At.seq ?_
  refine At.region ?_
  refine L.mv rfl rfl ?_
  refine L.mv rfl rfl ?_
  refine L.on rfl rfl rfl (L.vala rfl (ev_move rfl) (fun _ _ => trivial) ?_)
  refine L.on rfl rfl rfl (L.vala rfl (ev_move rfl) (fun _ _ => trivial) ?_)
  refine L.on rfl rfl rfl (L.vala rfl (ev_eqlEI (r := true) rfl rfl rfl rfl rfl rfl (by simp)) (fun _ _ => trivial) ?_)
  refine L.pure rfl (ev_pick rfl rfl rfl) ?_
  refine L.nil ?_
  refine At.then ?_
  refine At.condT rfl ?_
  refine At.seq ?_
  refine At.region ?_
  refine L.as rfl rfl ?_
  refine L.nil ?_
  refine At.then ?_
  refine At.ret ?_
  refine At.thenRet (At.inBlockRet (At.roundRet (At.inBlockRet ?_)))
  exact At.ret1 [] rfl rfl ⟨rfl, rfl⟩ (Ent.refl _)


theorem is_fault_in (b : Nat) (e : Int) (a : Value) : Does Tryd.prog Good 81 [.iface 95 (.pointer (some ⟨b, 0, none⟩)), .iface 26 (.int .i64 e), .bool true].toArray [blk b 100 #[.int .i64 e, a]] fun v m => v = .bool true ∧ m = [blk b 100 #[.int .i64 e, a]] := by
  refine Does.body Tryd.func81 rfl rfl fun E fr hE => ?_
  refine At.app1 ?_
  refine At.seq ?_
  refine At.region ?_
  refine L.as rfl rfl ?_
  refine L.nil ?_
  refine At.then ?_
  refine At.block ?_
  refine At.loop (X := Bool) (fun x => [(0, bif x then .iface 26 (.int .i64 e) else .iface 95 (.pointer (some ⟨b, 0, none⟩))), (1, .iface 26 (.int .i64 e)), (2, .bool true)]) (fun _ => blk b 100 #[.int .i64 e, a] :: fr) (fun _ => True) (fun x => bif x then 0 else 1) false trivial ⟨rfl, rfl, rfl, trivial⟩ (Ent.refl _) ?_
  rintro x _
  refine At.block ?_
  refine At.seq ?_
  refine At.seq ?_
  by_cases hx : x = true
  ·
    subst hx
    refine At.region ?_
    refine L.mv rfl rfl ?_
    refine L.mv rfl rfl ?_
    refine L.on rfl rfl rfl (L.vala rfl (ev_move rfl) (fun _ _ => trivial) ?_)
    refine L.on rfl rfl rfl (L.vala rfl (ev_move rfl) (fun _ _ => trivial) ?_)
    refine L.on rfl rfl rfl (L.vala rfl (ev_eqlEI (r := true) rfl rfl rfl rfl rfl rfl (by simp)) (fun _ _ => trivial) ?_)
    refine L.pure rfl (ev_pick rfl rfl rfl) ?_
    refine L.nil ?_
    refine At.then ?_
    refine At.condT rfl ?_
    refine At.seq ?_
    refine At.region ?_
    refine L.as rfl rfl ?_
    refine L.nil ?_
    refine At.then ?_
    refine At.ret ?_
    refine At.thenRet (At.inBlockRet (At.roundRet (At.inBlockRet ?_)))
    exact At.ret1 [_] rfl rfl ⟨rfl, rfl⟩ (Ent.refl _)
  ·
    obtain rfl : x = false := by simpa using hx
    refine At.region ?_
    refine L.mv rfl rfl ?_
    refine L.mv rfl rfl ?_
    refine L.on rfl rfl rfl (L.vala rfl (ev_move rfl) (fun _ _ => trivial) ?_)
    refine L.on rfl rfl rfl (L.vala rfl (ev_move rfl) (fun _ _ => trivial) ?_)
    refine L.on rfl rfl rfl (L.vala rfl (ev_eqlNeT rfl rfl rfl rfl) (fun _ _ => trivial) ?_)
    refine L.pure rfl (ev_pick rfl rfl rfl) ?_
    refine L.nil ?_
    refine At.then ?_
    refine At.condF rfl ?_
    refine At.skip ?_
    refine At.then ?_
    refine At.seq ?_
    refine At.seq ?_
    refine At.region ?_
    refine L.mv rfl rfl ?_
    refine L.pure rfl (ev_asINot (z := .nilIface) rfl rfl (by kernel_rfl) (by kernel_rfl)) ?_
    refine L.mv rfl rfl ?_
    refine L.ex rfl rfl rfl ?_
    refine L.ex rfl rfl rfl ?_
    refine L.as rfl rfl ?_
    refine L.as rfl rfl ?_
    refine L.nil ?_
    refine At.then ?_
    refine At.seq ?_
    refine At.region ?_
    refine L.mv rfl rfl ?_
    refine L.mv rfl rfl ?_
    refine L.off rfl rfl rfl rfl rfl rfl ?_
    refine L.off rfl rfl rfl rfl rfl rfl ?_
    refine L.off rfl rfl rfl rfl rfl rfl ?_
    refine L.pure rfl (ev_pick rfl rfl rfl) ?_
    refine L.nil ?_
    refine At.then ?_
    refine At.condF rfl ?_
    refine At.skip ?_
    refine At.then ?_
    refine At.seq ?_
    refine At.region ?_
    refine L.mv rfl rfl ?_
    refine L.nil ?_
    refine At.then ?_
    refine At.block ?_
    refine At.seq ?_
    refine At.region ?_
    refine L.pure rfl (ev_asI rfl rfl (by kernel_rfl)) ?_
    refine L.ex rfl rfl rfl ?_
    refine L.ex rfl rfl rfl ?_
    refine L.nil ?_
    refine At.then ?_
    refine At.condT rfl ?_
    refine At.seq ?_
    refine At.region ?_
    refine L.as rfl rfl ?_
    refine L.nil ?_
    refine At.then ?_
    refine At.seq ?_
    refine At.region ?_
    refine L.mv rfl rfl ?_
    refine L.op rfl (o_invoke rfl rfl rfl (mUnwrap _) rfl hE (unwrap_does b (.int .i64 e) a) (Ent.refl _) ?_)
    rintro v m ⟨rfl, rfl⟩
    refine At.app1 ?_
    refine L.as rfl rfl ?_
    refine L.nil ?_
    refine At.then ?_
    refine At.seq ?_
    refine At.region ?_
    refine L.mv rfl rfl ?_
    refine L.pure rfl (ev_eqlNil rfl rfl) ?_
    refine L.nil ?_
    refine At.then ?_
    refine At.condF rfl ?_
    refine At.skip ?_
    refine At.inBlock (At.inBlock ?_)
    exact At.round true trivial (by simp) ⟨rfl, rfl, rfl, trivial⟩ (Ent.refl _)

theorem is_errno (e : Int) : Does Tryd.prog Good 54 [.iface 26 (.int .i64 e), .iface 26 (.int .i64 e)].toArray [] fun v m => v = .bool true ∧ m = [] := by
  refine Does.body Tryd.func54 rfl rfl fun E fr hE => ?_
  refine At.app0 ?_
  refine At.seq ?_
  refine At.region ?_
  refine L.as rfl rfl ?_
  refine L.nil ?_
  refine At.then ?_
  refine At.seq ?_
  refine At.seq ?_
  refine At.region ?_
  refine L.mv rfl rfl ?_
  refine L.pure rfl (ev_eqlNil rfl rfl) ?_
  refine L.mv rfl rfl ?_
  refine L.on rfl rfl rfl (L.vala rfl (ev_move rfl) (fun _ _ => trivial) ?_)
  refine L.on rfl rfl rfl (L.vala rfl (ev_eqlNil rfl rfl) (fun _ _ => trivial) ?_)
  refine L.pure rfl (ev_pick rfl rfl rfl) ?_
  refine L.nil ?_
  refine At.then ?_
  refine At.condF rfl ?_
  refine At.skip ?_
  refine At.then ?_
  refine At.seq ?_
  refine At.region ?_
  refine L.mv rfl rfl ?_
  refine L.pure rfl (ev_ext rfl fun w _ => typeOfN _ w) ?_
  refine L.pure rfl (ev_mext rfl rfl (mComparable _) fun w _ => comparableN w) ?_
  refine L.as rfl rfl ?_
  refine L.nil ?_
  refine At.then ?_
  refine At.seq ?_
  refine At.region ?_
  refine L.mv rfl rfl ?_
  refine L.mv rfl rfl ?_
  refine L.mv rfl rfl ?_
  refine L.op rfl (o_call rfl rfl rfl hE (is_errno_in e) (Ent.refl _) ?_)
  rintro v m ⟨rfl, rfl⟩
  refine At.app0 ?_
  refine L.as rfl rfl ?_
  refine L.nil ?_
  refine At.then ?_
  refine At.ret ?_
  exact At.ret1 [] rfl rfl ⟨rfl, rfl⟩ (Ent.refl _)

theorem is_fault (b : Nat) (e : Int) (a : Value) : Does Tryd.prog Good 54 [.iface 95 (.pointer (some ⟨b, 0, none⟩)), .iface 26 (.int .i64 e)].toArray [blk b 100 #[.int .i64 e, a]] fun v m => v = .bool true ∧ m = [blk b 100 #[.int .i64 e, a]] := by
  refine Does.body Tryd.func54 rfl rfl fun E fr hE => ?_
  refine At.app1 ?_
  refine At.seq ?_
  refine At.region ?_
  refine L.as rfl rfl ?_
  refine L.nil ?_
  refine At.then ?_
  refine At.seq ?_
  refine At.seq ?_
  refine At.region ?_
  refine L.mv rfl rfl ?_
  refine L.pure rfl (ev_eqlNil rfl rfl) ?_
  refine L.mv rfl rfl ?_
  refine L.on rfl rfl rfl (L.vala rfl (ev_move rfl) (fun _ _ => trivial) ?_)
  refine L.on rfl rfl rfl (L.vala rfl (ev_eqlNil rfl rfl) (fun _ _ => trivial) ?_)
  refine L.pure rfl (ev_pick rfl rfl rfl) ?_
  refine L.nil ?_
  refine At.then ?_
  refine At.condF rfl ?_
  refine At.skip ?_
  refine At.then ?_
  refine At.seq ?_
  refine At.region ?_
  refine L.mv rfl rfl ?_
  refine L.pure rfl (ev_ext rfl fun w _ => typeOfN _ w) ?_
  refine L.pure rfl (ev_mext rfl rfl (mComparable _) fun w _ => comparableN w) ?_
  refine L.as rfl rfl ?_
  refine L.nil ?_
  refine At.then ?_
  refine At.seq ?_
  refine At.region ?_
  refine L.mv rfl rfl ?_
  refine L.mv rfl rfl ?_
  refine L.mv rfl rfl ?_
  refine L.op rfl (o_call rfl rfl rfl hE (is_fault_in b e a) (Ent.refl _) ?_)
  rintro v m ⟨rfl, rfl⟩
  refine At.app1 ?_
  refine L.as rfl rfl ?_
  refine L.nil ?_
  refine At.then ?_
  refine At.ret ?_
  exact At.ret1 [_] rfl rfl ⟨rfl, rfl⟩ (Ent.refl _)

/-! ### plain.Told -/
theorem told_nil : Does Tryd.prog Good 32 [.nilIface].toArray [] fun v m => v = .tuple #[.int .i64 0, .int .i64 (-1)] ∧ m = [] := by
  refine Does.body Tryd.func32 rfl rfl fun E fr hE => ?_
  refine At.app0 ?_
  refine At.seq ?_
  refine At.region ?_
  refine L.as rfl rfl ?_
  refine L.as rfl rfl ?_
  refine L.nil ?_
  refine At.then ?_
  refine At.seq ?_
  refine At.region ?_
  refine L.op rfl (o_alloc (z := .pointer none) rfl rfl fun b4 => ?_)
  refine L.nil ?_
  refine At.then ?_
  refine At.seq ?_
  refine At.region ?_
  refine L.op rfl (o_alloc (z := .int .i64 0) rfl rfl fun b5 => ?_)
  refine L.nil ?_
  refine At.then ?_
  refine At.seq ?_
  refine At.block ?_
  refine At.seq ?_
  refine At.region ?_
  refine L.mv rfl rfl ?_
  refine L.pure rfl (ev_eqlNil0 rfl rfl) ?_
  refine L.as rfl rfl ?_
  refine L.nil ?_
  refine At.then ?_
  refine At.condT rfl ?_
  refine At.seq ?_
  refine At.region ?_
  refine L.as rfl rfl ?_
  refine L.as rfl rfl ?_
  refine L.nil ?_
  refine At.then ?_
  refine At.ret ?_
  refine At.inBlockRet (At.thenRet ?_)
  exact At.ret2 [] rfl rfl rfl ⟨rfl, rfl⟩ (Ent.drop.trans Ent.drop)
  -- unused hints: ['plain']

theorem told_errno (e : Int) : Does Tryd.prog Good 32 [.iface 26 (.int .i64 e)].toArray [] fun v m => v = .tuple #[.int .i64 e, .int .i64 (-1)] ∧ m = [] := by
  refine Does.body Tryd.func32 rfl rfl fun E fr hE => ?_
  refine At.app0 ?_
  refine At.seq ?_
  refine At.region ?_
  refine L.as rfl rfl ?_
  refine L.as rfl rfl ?_
  refine L.nil ?_
  refine At.then ?_
  refine At.seq ?_
  refine At.region ?_
  refine L.op rfl (o_alloc (z := .pointer none) rfl rfl fun b4 => ?_)
  refine L.nil ?_
  refine At.then ?_
  refine At.seq ?_
  refine At.region ?_
  refine L.op rfl (o_alloc (z := .int .i64 0) rfl rfl fun b5 => ?_)
  refine L.nil ?_
  refine At.then ?_
  refine At.seq ?_
  refine At.block ?_
  refine At.seq ?_
  refine At.region ?_
  refine L.mv rfl rfl ?_
  refine L.pure rfl (ev_eqlNil rfl rfl) ?_
  refine L.as rfl rfl ?_
  refine L.nil ?_
  refine At.then ?_
  refine At.condF rfl ?_
  refine At.seq ?_
  refine At.region ?_
  refine L.mv rfl rfl ?_
  refine L.pure rfl (ev_iface rfl rfl rfl) ?_
  refine L.op rfl (o_call rfl rfl rfl hE (As_miss e b4 (.pointer none)) (Ent.sel (.tail (.head))) ?_)
  rintro v m ⟨rfl, rfl⟩
  refine At.app1 ?_
  refine L.mv rfl rfl ?_
  refine L.off rfl rfl rfl rfl rfl rfl ?_
  refine L.off rfl rfl rfl rfl rfl rfl ?_
  refine L.off rfl rfl rfl rfl rfl rfl ?_
  refine L.off rfl rfl rfl rfl rfl rfl ?_
  refine L.off rfl rfl rfl rfl rfl rfl ?_
  refine L.off rfl rfl rfl rfl rfl rfl ?_
  refine L.off rfl rfl rfl rfl rfl rfl ?_
  refine L.pure rfl (ev_pick rfl rfl rfl) ?_
  refine L.as rfl rfl ?_
  refine L.nil ?_
  refine At.then ?_
  refine At.condF rfl ?_
  refine At.seq ?_
  refine At.region ?_
  refine L.mv rfl rfl ?_
  refine L.pure rfl (ev_iface rfl rfl rfl) ?_
  refine L.op rfl (o_call rfl rfl rfl hE (As_errno e b5 (.int .i64 0)) (Ent.sel (.tail (.head))) ?_)
  rintro v m ⟨rfl, rfl⟩
  refine At.app1 ?_
  refine L.mv rfl rfl ?_
  refine L.on rfl rfl rfl (L.vala rfl (ev_move rfl) (fun _ _ => trivial) ?_)
  refine L.on rfl rfl rfl (L.vala rfl (ev_load1 rfl rfl) (cellIs rfl) ?_)
  refine L.on rfl rfl rfl (L.vala rfl (ev_iface rfl rfl rfl) (fun _ _ => trivial) ?_)
  refine L.on rfl rfl rfl (o_call rfl rfl rfl hE (is_errno e) (Ent.refl _) ?_)
  rintro v m ⟨rfl, rfl⟩
  refine At.app0 ?_
  refine L.pure rfl (ev_pick rfl rfl rfl) ?_
  refine L.as rfl rfl ?_
  refine L.nil ?_
  refine At.then ?_
  refine At.condT rfl ?_
  refine At.seq ?_
  refine At.region ?_
  refine L.ld rfl rfl rfl rfl ?_
  refine L.as rfl rfl ?_
  refine L.as rfl rfl ?_
  refine L.nil ?_
  refine At.then ?_
  refine At.ret ?_
  refine At.inBlockRet (At.thenRet ?_)
  exact At.ret2 [] rfl rfl rfl ⟨rfl, rfl⟩ (Ent.drop.trans Ent.drop)

theorem told_fault (b : Nat) (e a : Int) : Does Tryd.prog Good 32 [.iface 95 (.pointer (some ⟨b, 0, none⟩))].toArray [blk b 100 #[.int .i64 e, .int .i64 a]] fun v m => v = .tuple #[.int .i64 e, .int .i64 a] ∧ m = [blk b 100 #[.int .i64 e, .int .i64 a]] := by
  refine Does.body Tryd.func32 rfl rfl fun E fr hE => ?_
  refine At.app1 ?_
  refine At.seq ?_
  refine At.region ?_
  refine L.as rfl rfl ?_
  refine L.as rfl rfl ?_
  refine L.nil ?_
  refine At.then ?_
  refine At.seq ?_
  refine At.region ?_
  refine L.op rfl (o_alloc (z := .pointer none) rfl rfl fun b4 => ?_)
  refine L.nil ?_
  refine At.then ?_
  refine At.seq ?_
  refine At.region ?_
  refine L.op rfl (o_alloc (z := .int .i64 0) rfl rfl fun b5 => ?_)
  refine L.nil ?_
  refine At.then ?_
  refine At.seq ?_
  refine At.block ?_
  refine At.seq ?_
  refine At.region ?_
  refine L.mv rfl rfl ?_
  refine L.pure rfl (ev_eqlNil rfl rfl) ?_
  refine L.as rfl rfl ?_
  refine L.nil ?_
  refine At.then ?_
  refine At.condF rfl ?_
  refine At.seq ?_
  refine At.region ?_
  refine L.mv rfl rfl ?_
  refine L.pure rfl (ev_iface rfl rfl rfl) ?_
  refine L.op rfl (o_call rfl rfl rfl hE (As_fault ⟨b, 0, none⟩ b4 (.pointer none)) (Ent.sel (.tail (.head))) ?_)
  rintro v m ⟨rfl, rfl⟩
  refine At.app1 ?_
  refine L.mv rfl rfl ?_
  refine L.on rfl rfl rfl (L.vala rfl (ev_move rfl) (fun _ _ => trivial) ?_)
  refine L.on rfl rfl rfl (L.vala rfl (ev_load1 rfl rfl) (cellIs rfl) ?_)
  refine L.on rfl rfl rfl (L.vala rfl (ev_nil rfl) (fun _ _ => trivial) ?_)
  refine L.on rfl rfl rfl (L.vala rfl (ev_field (off := 0) rfl rfl) (fun _ _ => trivial) ?_)
  refine L.on rfl rfl rfl (L.vala rfl (ev_load1 rfl rfl) (cellIs rfl) ?_)
  refine L.on rfl rfl rfl (L.vala rfl (ev_iface rfl rfl rfl) (fun _ _ => trivial) ?_)
  refine L.on rfl rfl rfl (o_call rfl rfl rfl hE (is_fault b e (.int .i64 a)) (Ent.sel (.tail (.tail (.head)))) ?_)
  rintro v m ⟨rfl, rfl⟩
  refine At.app1 ?_
  refine L.pure rfl (ev_pick rfl rfl rfl) ?_
  refine L.as rfl rfl ?_
  refine L.nil ?_
  refine At.then ?_
  refine At.condT rfl ?_
  refine At.seq ?_
  refine Dr.start rfl ?_
  refine Dr.ld 0 rfl rfl (by kernel_rfl) (ev_load1 rfl rfl) (cellIs rfl) ?_
  refine Dr.p 1 rfl rfl (by kernel_rfl) (ev_nil rfl) ?_
  refine Dr.p 2 rfl rfl (by kernel_rfl) (ev_field (off := 0) rfl rfl) ?_
  refine Dr.ld 3 rfl rfl (by kernel_rfl) (ev_load1 rfl rfl) (cellIs rfl) ?_
  refine Dr.ld 4 rfl rfl (by kernel_rfl) (ev_load1 rfl rfl) (cellIs rfl) ?_
  refine Dr.p 5 rfl rfl (by kernel_rfl) (ev_nil rfl) ?_
  refine Dr.p 6 rfl rfl (by kernel_rfl) (ev_field (off := 1) rfl rfl) ?_
  refine Dr.ld 7 rfl rfl (by kernel_rfl) (ev_load1 rfl rfl) (cellIs rfl) ?_
  refine Dr.p 8 rfl rfl (by kernel_rfl) (ev_assign rfl) ?_
  refine Dr.p 9 rfl rfl (by kernel_rfl) (ev_assign rfl) ?_
  refine Dr.done (by kernel_rfl) ?_
  refine At.then ?_
  refine At.ret ?_
  refine At.inBlockRet (At.thenRet ?_)
  exact At.ret2 [_] rfl rfl rfl ⟨rfl, rfl⟩ (Ent.cons (Ent.drop.trans Ent.drop))
end Go.Proofs.YtagkobkmaigfcaaDoor

/- A new timer; a new wheel; flowkeeper's Wheel. -/
namespace Go.Proofs.YtagkobkmaigfcaaDoor
open Go Go.RowKit Go.SL
open FK (upd upd_at upd_off)
variable {G : Env → Prop}

theorem tmrs_fresh {E : Env} {w : World} {l r r' : List HP} {b : Nat} {o : Obj} {tms : List FK.Tmr} (h : Holds E w l) (s : Sel (ob b o) l r) (s' : Sel (tmrs tms) r r') : b ∉ tms.map FK.Tmr.blk := by
  obtain ⟨F1, F2, _, _, hd, hp, hl⟩ := (h.sel s).star
  obtain ⟨F3, F4, h3, _, _, hq, _⟩ := hl.perm s'.perm
  intro hb
  obtain ⟨u, hu, rfl⟩ := List.mem_map.1 hb
  exact hd _ hp.1 (h3 _ (Star.mem hq (List.mem_map_of_mem hu)).1)

set_option maxRecDepth 10000 in
theorem has_does {S : FK.WS} (w : Nat) (k : Int) (h : FK.Inv S []) : Does Tryd.prog G 60 [ptr w, .int .i64 k].toArray [wheelAt w S] fun v m => v = .bool (decide (k ∈ (S.tms.map FK.kd).map (·.1))) ∧ m = [wheelAt w S] := by
  have hm : (S.tms.map FK.kd).map (·.1) = S.tms.map FK.Tmr.key := by rw [List.map_map]; rfl
  rw [hm]
  have hbool : (assoc (byOf S.tms) k).isSome = decide (k ∈ S.tms.map FK.Tmr.key) := by
    by_cases hk : k ∈ S.tms.map FK.Tmr.key
    · obtain ⟨t, ht, rfl⟩ := List.mem_map.1 hk
      obtain ⟨a, b, hS⟩ := List.append_of_mem ht
      have hkeys := h.keys
      rw [hS] at hkeys
      have := by_some hkeys
      rw [← hS] at this
      rw [this, decide_eq_true hk]
      rfl
    · rw [by_none hk, decide_eq_false hk]
      rfl
  refine Does.body Tryd.func60 rfl rfl fun E fr hE => ?_
  refine At.app1 ?_
  refine At.openWheel .head fun sl mp => ?_
  refine At.seq ?_
  refine At.region ?_
  refine L.as rfl rfl ?_
  refine L.nil ?_
  refine At.then ?_
  refine At.seq ?_
  refine At.region ?_
  refine L.mv rfl rfl ?_
  refine L.nc rfl rfl ?_
  refine L.fa 717 rfl rfl rfl ?_
  refine L.val rfl (ev_load1 rfl rfl) (cellIs (wcell_atM _ _ _ _ _)) ?_
  refine L.mv rfl rfl ?_
  refine L.val rfl (ev_look (z := .pointer none) rfl rfl rfl rfl rfl) (imapIs (.tail (.tail (.tail (.head))))) ?_
  refine L.mv rfl rfl ?_
  refine L.ex rfl rfl rfl ?_
  refine L.ex rfl rfl rfl ?_
  refine L.as rfl rfl ?_
  refine L.as rfl rfl ?_
  refine L.nil ?_
  refine At.then ?_
  refine At.seq ?_
  refine At.region ?_
  refine L.mv rfl rfl ?_
  refine L.as rfl rfl ?_
  refine L.nil ?_
  refine At.then ?_
  refine At.ret ?_
  exact At.ret1 [_] rfl rfl ⟨by rw [hbool]; rfl, rfl⟩ (Ent.closeWheel (S := S) (sl := sl) (mp := mp))

set_option maxRecDepth 10000 in
theorem len_does {S : FK.WS} (w : Nat) : Does Tryd.prog G 61 [ptr w].toArray [wheelAt w S] fun v m => v = .int .i64 S.tms.length ∧ m = [wheelAt w S] := by
  refine Does.body Tryd.func61 rfl rfl fun E fr hE => ?_
  refine At.app1 ?_
  refine At.openWheel .head fun sl mp => ?_
  refine At.seq ?_
  refine At.region ?_
  refine L.as rfl rfl ?_
  refine L.nil ?_
  refine At.then ?_
  refine At.seq ?_
  refine At.region ?_
  refine L.mv rfl rfl ?_
  refine L.nc rfl rfl ?_
  refine L.fa 717 rfl rfl rfl ?_
  refine L.val rfl (ev_load1 rfl rfl) (cellIs (wcell_atM _ _ _ _ _)) ?_
  refine L.val rfl (ev_lenM (m := byOf S.tms) rfl rfl) (imapIs (.tail (.tail (.tail (.head))))) ?_
  refine L.as rfl rfl ?_
  refine L.nil ?_
  refine At.then ?_
  refine At.ret ?_
  exact At.ret1 [_] rfl rfl ⟨by simp [byOf], rfl⟩ (Ent.closeWheel (S := S) (sl := sl) (mp := mp))

set_option maxRecDepth 10000 in
theorem now_does {S : FK.WS} (w : Nat) : Does Tryd.prog G 46 [ptr w].toArray [wheelAt w S] fun v m => v = .int .u64 S.now ∧ m = [wheelAt w S] := by
  refine Does.body Tryd.func46 rfl rfl fun E fr hE => ?_
  refine At.app1 ?_
  refine At.openWheel .head fun sl mp => ?_
  refine At.seq ?_
  refine At.region ?_
  refine L.as rfl rfl ?_
  refine L.nil ?_
  refine At.then ?_
  refine At.seq ?_
  refine At.region ?_
  refine L.mv rfl rfl ?_
  refine L.nc rfl rfl ?_
  refine L.fa 0 rfl rfl rfl ?_
  refine L.val rfl (ev_load1 rfl rfl) (cellIs (wcell_at0 _ _ _ _ _)) ?_
  refine L.as rfl rfl ?_
  refine L.nil ?_
  refine At.then ?_
  refine At.ret ?_
  exact At.ret1 [_] rfl rfl ⟨rfl, rfl⟩ (Ent.closeWheel (S := S) (sl := sl) (mp := mp))

set_option maxRecDepth 10000 in
set_option maxHeartbeats 1000000 in
theorem set_does {S : FK.WS} (w : Nat) (k : Int) (a : Nat) (h : FK.Inv S []) (hk : k ∉ S.tms.map FK.Tmr.key) (ha : S.now ≤ a) (ha62 : a ≤ 4611686018427387904) (hsq : S.seq < 9223372036854775807) (hln : S.tms.length ≤ 99998) :
    Does Tryd.prog G 62 [ptr w, .int .i64 k, .int .u64 a].toArray [wheelAt w S] fun v m => v = .tuple #[] ∧ ∃ S' : FK.WS, FK.Inv S' [] ∧ S'.now = S.now ∧ S'.seq = S.seq + 1 ∧ S'.tms.map FK.kd = S.tms.map FK.kd ++ [(k, a)] ∧ m = [wheelAt w S'] := by
  refine Does.body Tryd.func62 rfl rfl fun E fr hE => ?_
  refine At.app1 ?_
  refine At.seq ?_
  refine At.region ?_
  refine L.mv rfl rfl ?_
  refine L.mv rfl rfl ?_
  refine L.op rfl (o_call rfl rfl rfl hE (drop_none w k hk) (Ent.refl _) ?_)
  rintro v m ⟨rfl, rfl⟩
  refine At.app1 ?_
  refine L.nil ?_
  refine At.then ?_
  refine At.seq ?_
  refine At.openWheel .head fun sl mp => ?_
  refine At.region ?_
  refine L.mv rfl rfl ?_
  refine L.nc rfl rfl ?_
  refine L.fa 1 rfl rfl rfl ?_
  refine L.val rfl (ev_load1 rfl rfl) (cellIs (wcell_at1 _ _ _ _ _)) ?_
  refine L.pure rfl (ev_add (r := ((S.seq + 1 : Nat) : Int)) rfl rfl (by rw [mu64]; omega)) ?_
  refine L.nc rfl rfl ?_
  refine L.fa 1 rfl rfl rfl ?_
  refine L.st rfl rfl rfl rfl (by rw [wcN_size]; omega) ?_
  rw [wc_set, wcell_seq]
  refine L.nil ?_
  refine At.then ?_
  refine At.seq ?_
  refine At.region ?_
  refine L.mv rfl rfl ?_
  refine L.mv rfl rfl ?_
  refine L.mv rfl rfl ?_
  refine L.nc rfl rfl ?_
  refine L.fa 1 rfl rfl rfl ?_
  refine L.val rfl (ev_load1 rfl rfl) (cellIs (wcell_at1 _ _ _ _ _)) ?_
  refine L.pure rfl (ev_build (cs := #[.int .i64 k, .int .u64 a, .int .u64 ((S.seq + 1 : Nat) : Int), .int .i64 0, .int .i64 0]) rfl rfl rfl rfl rfl) ?_
  refine L.op rfl (o_box rfl rfl fun b => ?_)
  refine L.as rfl rfl ?_
  refine L.nil ?_
  refine At.then ?_
  refine At.seq ?_
  refine At.fact (p := b ∉ S.tms.map FK.Tmr.blk) (fun w' hw' => tmrs_fresh hw' .head (.tail (.tail (.head)))) fun hb => ?_
  refine At.region ?_
  refine L.mv rfl rfl ?_
  refine L.nc rfl rfl ?_
  refine L.fa 717 rfl rfl rfl ?_
  refine L.val rfl (ev_load1 rfl rfl) (cellIs (wcell_atM _ _ _ _ _)) ?_
  refine L.mv rfl rfl ?_
  refine L.mv rfl rfl ?_
  refine L.op rfl (o_mapNew rfl rfl rfl rfl rfl rfl (.tail (.tail (.tail (.tail (.head))))) (by_none hk) ?_)
  refine L.nil ?_
  refine At.then ?_
  obtain ⟨t, ht⟩ : ∃ t : FK.Tmr, t = ⟨k, a, S.seq + 1, b, 0, 0⟩ := ⟨_, rfl⟩
  have hI := h.add (t := t) (by rw [ht]; exact hk) (by rw [ht]; exact hb) (by rw [ht]) (by rw [ht]; exact ⟨ha, ha62⟩)
  have hlw := h.add_low (t := t) (by rw [ht])
  have hput := hI.put (a := S.tms) (b := []) (rest := []) rfl (by simp) (fun u hu hun _ => hlw u hu hun)
  refine At.ent (l' := wheelAt w (S.add t) :: fr) ?_ ?_
  · have hby : byOf S.tms ++ [(k, ptr b)] = byOf (S.tms ++ [t]) := by simp [byOf, ht]
    have hcl := tmrs_close (a := S.tms) (b := []) (t := t) (r := imap .i64 mp (byOf (S.tms ++ [t])) :: blk w 115 (wc (wcell S.now (S.seq + 1) sl S.us mp)) :: slots sl S.bs :: fr)
    rw [List.append_nil] at hcl
    rw [hby]
    refine (Ent.trans ?_ hcl).trans ((Ent.sel3 (.tail (.tail (.head))) (.tail (.tail (.head))) .head).trans (Ent.closeWheel (S := S.add t) (sl := sl) (mp := mp)))
    subst ht
    exact Ent.sel2 (.tail (.head)) (.tail (.tail (.tail (.head))))
  have hpd := put_does (G := G) (a := S.tms) (t := t) (b := []) w hI rfl (by show S.seq + 1 < _; omega) (by show (S.tms ++ [t]).length ≤ _; simp; omega) (fun u hu hun _ => hlw u hu hun)
  rw [show t.blk = b by rw [ht]] at hpd
  refine At.region ?_
  refine L.mv rfl rfl ?_
  refine L.mv rfl rfl ?_
  refine L.op rfl (o_call rfl rfl rfl hE hpd (Ent.refl _) ?_)
  rintro v m ⟨rfl, rfl⟩
  refine At.app1 ?_
  refine L.nil ?_
  exact At.end0 [wheelAt w ((S.add t).put S.tms t [])] rfl ⟨rfl, _, hput, rfl, rfl, by simp [FK.WS.put, FK.Tmr.place, FK.kd, ht], rfl⟩ (Ent.refl _)
end Go.Proofs.YtagkobkmaigfcaaDoor

/- A new wheel. -/
namespace Go.Proofs.YtagkobkmaigfcaaDoor
open Go Go.RowKit Go.SL
open FK (upd upd_at upd_off)
variable {G : Env → Prop}

def WS0 (now : Nat) : FK.WS := ⟨now, 0, fun _ => 0, fun _ => [], []⟩
theorem inv0 {now : Nat} (h : now ≤ 4611686018427387904) : FK.Inv (WS0 now) [] where
  nowle := h
  keys := List.nodup_nil
  blks := List.nodup_nil
  seqs := List.Pairwise.nil
  seqle := fun t ht => by cases ht
  due := fun t ht => by cases ht
  pl := fun t ht => by cases ht
  slot := fun i _ => rfl
  used := fun l s _ _ => by simp [WS0]
  uslt := fun l _ => by simp [WS0]

theorem slotN_zero (n : Nat) : slotN n (fun _ => .slice none 0 0) (fun _ => []) = List.replicate n (ptrsAt (.slice none 0 0) []) := by
  unfold slotN
  apply List.ext_getElem <;> simp
theorem slots_zero {l : List HP} : Ent l (slots (fun _ => .slice none 0 0) (fun _ => []) :: l) := by
  have h : ∀ n, Ent l (List.replicate n (ptrsAt (.slice none 0 0) []) ++ l) := fun n => by
    induction n with
    | zero => exact Ent.refl _
    | succ n ih => exact ih.trans Ent.row0
  have h1 := h 704
  rw [← slotN_zero] at h1
  exact h1.trans (Ent.all (m := slotL (fun _ => .slice none 0 0) (fun _ => [])))

theorem cells_gen (a b i : Nat) (x0 x1 s u m : Value) : (#[x0, x1] ++ Array.replicate a s ++ Array.replicate b u ++ #[m])[i]? = if i = 0 then some x0 else if i = 1 then some x1 else if i < 2 + a then some s else if i < 2 + a + b then some u else if i = 2 + a + b then some m else none := by
  simp only [Array.getElem?_append, Array.getElem?_replicate, Array.size_append, Array.size_replicate]
  rcases i with _ | _ | i
  · have h1 : 0 < 2 + a + b := by omega
    have h2 : 0 < 2 + a := by omega
    simp [h1, h2]
  · have h1 : 1 < 2 + a + b := by omega
    have h2 : 1 < 2 + a := by omega
    simp [h1, h2]
  · simp
    have h2 : ¬ i + 1 + 1 < 2 := by omega
    by_cases h3 : i + 1 + 1 < 2 + a
    · have : i + 1 + 1 < 2 + a + b := by omega
      simp [h2, h3, this]
      omega
    · by_cases h4 : i + 1 + 1 < 2 + a + b
      · simp [h3, h4]; omega
      · by_cases h5 : i + 1 + 1 = 2 + a + b
        · simp [h5]; omega
        · simp [h3, h4, h5]; omega
def cells0 (now mp : Nat) : Array Value := #[.int .u64 now, .int .u64 0] ++ Array.replicate 704 (.slice none 0 0) ++ Array.replicate 11 (.int .u64 0) ++ #[.map (some mp)]
theorem cells0_eq (now mp : Nat) : cells0 now mp = wc (wcell now 0 (fun _ => .slice none 0 0) (fun _ => 0) mp) := by
  apply Array.ext_getElem?
  intro i
  unfold cells0
  rw [cells_gen]
  by_cases h : i < 718
  · rw [wc_at _ h]
    unfold wcell
    by_cases c0 : i = 0
    · rw [if_pos c0, if_pos c0]
    · rw [if_neg c0, if_neg c0]
      by_cases c1 : i = 1
      · rw [if_pos c1, if_pos c1]; rfl
      · rw [if_neg c1, if_neg c1]
        by_cases c3 : i < 706
        · rw [if_pos (by omega), if_pos c3]
        · rw [if_neg (by omega), if_neg c3]
          by_cases c4 : i < 717
          · rw [if_pos (by omega), if_pos c4]; rfl
          · rw [if_neg (by omega), if_neg c4, if_pos (by omega)]
  · rw [if_neg (by omega), if_neg (by omega), if_neg (by omega), if_neg (by omega), if_neg (by omega)]
    rw [Array.getElem?_eq_none (by rw [wcN_size]; omega)]

def zeroW : Value := .agg (#[.int .u64 0, .int .u64 0] ++ Array.replicate 704 (.slice none 0 0) ++ Array.replicate 11 (.int .u64 0) ++ #[.map none])

set_option maxRecDepth 100000 in
theorem new_does (now : Nat) : Does Tryd.prog G 38 [.int .u64 now].toArray [] fun v m => ∃ w, v = ptr w ∧ m = [wheelAt w (WS0 now)] := by
  refine Does.body Tryd.func38 rfl rfl fun E fr hE => ?_
  refine At.app0 ?_
  refine At.seq ?_
  refine At.region ?_
  refine L.as rfl rfl ?_
  refine L.nil ?_
  refine At.then ?_
  refine At.seq ?_
  refine At.region ?_
  refine L.mv rfl rfl ?_
  refine L.op rfl (o_makeMap (k := .i64) rfl fun mp => ?_)
  refine L.pure rfl (ev_build (z := zeroW) (vs := [.int .u64 now, .map (some mp)]) (cs := cells0 now mp) rfl rfl (by unfold zeroIs; kernel_rfl) rfl (by kernel_rfl)) ?_
  refine L.op rfl (o_box rfl rfl fun w => ?_)
  refine L.as rfl rfl ?_
  refine L.nil ?_
  refine At.then ?_
  refine At.ret ?_
  have e : Ent (blk w 115 (cells0 now mp) :: imap .i64 mp [] :: fr) (wheelAt w (WS0 now) :: fr) := by
    rw [cells0_eq]
    exact (Ent.cons (slots_zero.trans (Ent.cons (Ent.all (m := []))))).trans (Ent.closeWheel (S := WS0 now) (sl := fun _ => .slice none 0 0) (mp := mp))
  exact At.ret1 [_] rfl rfl ⟨w, rfl, rfl⟩ e
end Go.Proofs.YtagkobkmaigfcaaDoor
