/- errors.As, errors.Is, Told: their walks. -/
import Derived.Test.YtagkobkmaigfcaaDoorErrF
import Derived.Test.YtagkobkmaigfcaaDoorSlG
namespace Go.Proofs.YtagkobkmaigfcaaDoor
open Go Go.RowKit Go.SL Go.Extern

set_option maxRecDepth 10000
set_option maxHeartbeats 4000000

theorem as_nil (t : Value) : Does Tryd.prog Good 53 [.nilIface, t].toArray [] fun v m => v = .bool false ∧ m = [] := by
  refine Does.body Tryd.func53 rfl rfl fun E fr hE => ?_
  refine At.app0 ?_
  refine At.seq ?_
  refine At.region ?_
  refine L.as rfl rfl ?_
  refine L.nil ?_
  refine At.then ?_
  refine At.seq ?_
  refine At.seq ?_
  refine At.region ?_
  refine L.mv rfl rfl ?_
  refine L.pure rfl (ev_eqlNil0 rfl rfl) ?_
  refine L.nil ?_
  refine At.then ?_
  refine At.condT rfl ?_
  refine At.seq ?_
  refine At.region ?_
  refine L.as rfl rfl ?_
  refine L.nil ?_
  refine At.then ?_
  refine At.ret ?_
  refine At.thenRet ?_
  exact At.ret1 [] rfl rfl ⟨rfl, rfl⟩ (Ent.refl _)
  -- unused hints: ['plain']

theorem asF_hit (e : Addr) (t bv : Nat) (o : Value) : Does Tryd.prog Good 79 [.iface 95 (.pointer (some e)), .iface 97 (.pointer (some ⟨t, 0, none⟩)), rv 97 bv 150, rt 95].toArray [blk bv 97 #[.pointer (some ⟨t, 0, none⟩)], blk t 95 #[o]] fun v m => v = .bool true ∧ m = [blk t 95 #[.pointer (some e)]] := by
  refine Does.body Tryd.func79 rfl rfl fun E fr hE => ?_
  refine At.app2 ?_
  refine At.seq ?_
  refine At.region ?_
  refine L.op rfl (o_box rfl rfl fun b6 => ?_)
  refine L.as rfl rfl ?_
  refine L.nil ?_
  refine At.then ?_
  refine At.block ?_
  refine At.loop (X := Unit) (fun _ => [(0, .iface 95 (.pointer (some e))), (1, .iface 97 (.pointer (some ⟨t, 0, none⟩))), (3, rt 95), (6, .pointer (some ⟨b6, 0, none⟩))]) (fun _ => blk b6 141 #[hnd 97, .pointer (some ⟨bv, 0, none⟩), .int .u64 150] :: blk bv 97 #[.pointer (some ⟨t, 0, none⟩)] :: blk t 95 #[o] :: fr) (fun _ => True) (fun _ => 0) () trivial ⟨rfl, rfl, rfl, rfl, trivial⟩ (Ent.refl _) ?_
  rintro _ _
  refine At.block ?_
  refine At.seq ?_
  refine At.seq ?_
  refine At.region ?_
  refine L.mv rfl rfl ?_
  refine L.pure rfl (ev_ext rfl fun w _ => typeOfF _ w) ?_
  refine L.mv rfl rfl ?_
  refine L.pure rfl (ev_mext rfl rfl (mAssignableTo _) fun w _ => assignableF w) ?_
  refine L.nil ?_
  refine At.then ?_
  refine At.condT rfl ?_
  refine At.seq ?_
  refine At.region ?_
  refine L.val rfl (ev_loadN (vs := [hnd 97, .pointer (some ⟨bv, 0, none⟩), .int .u64 150]) rfl rfl rfl rfl) (rowAll rfl) ?_
  refine L.val rfl (ev_ext (args := [rv 97 bv 150]) rfl fun w h => elemVF bv t w h) (cellIs rfl) ?_
  refine L.mv rfl rfl ?_
  refine L.op rfl (o_ext (v := fun b => rv 95 b 150) rfl rfl (fun w => valueOfF e w) fun b23 => ?_)
  refine L.op rfl (o_extSet1 (args := [rv 95 t 406, rv 95 b23 150]) rfl (b := t) (j := 0) (tb := 95) (cs := #[o]) (u := .tuple #[]) (v := .pointer (some e)) (φ := CellIs ⟨b23, 0, none⟩ (.pointer (some e))) rfl (cellIs (b := b23) rfl) (fun w h1 h2 => setF t b23 e o w h1 h2) ?_)
  refine L.nil ?_
  refine At.then ?_
  refine At.seq ?_
  refine At.region ?_
  refine L.as rfl rfl ?_
  refine L.nil ?_
  refine At.then ?_
  refine At.ret ?_
  refine At.thenRet (At.inBlockRet (At.roundRet (At.inBlockRet ?_)))
  exact At.ret1 [blk t 95 #[.pointer (some e)]] rfl rfl ⟨rfl, rfl⟩ (Ent.cons (Ent.drop.trans (Ent.drop.trans Ent.drop)))
  -- unused hints: ['plain']

theorem asN_hit (e : Int) (t bv : Nat) (o : Value) : Does Tryd.prog Good 79 [.iface 26 (.int .i64 e), .iface 101 (.pointer (some ⟨t, 0, none⟩)), rv 101 bv 150, rt 26].toArray [blk bv 101 #[.pointer (some ⟨t, 0, none⟩)], blk t 26 #[o]] fun v m => v = .bool true ∧ m = [blk t 26 #[.int .i64 e]] := by
  refine Does.body Tryd.func79 rfl rfl fun E fr hE => ?_
  refine At.app2 ?_
  refine At.seq ?_
  refine At.region ?_
  refine L.op rfl (o_box rfl rfl fun b6 => ?_)
  refine L.as rfl rfl ?_
  refine L.nil ?_
  refine At.then ?_
  refine At.block ?_
  refine At.loop (X := Unit) (fun _ => [(0, .iface 26 (.int .i64 e)), (1, .iface 101 (.pointer (some ⟨t, 0, none⟩))), (3, rt 26), (6, .pointer (some ⟨b6, 0, none⟩))]) (fun _ => blk b6 141 #[hnd 101, .pointer (some ⟨bv, 0, none⟩), .int .u64 150] :: blk bv 101 #[.pointer (some ⟨t, 0, none⟩)] :: blk t 26 #[o] :: fr) (fun _ => True) (fun _ => 0) () trivial ⟨rfl, rfl, rfl, rfl, trivial⟩ (Ent.refl _) ?_
  rintro _ _
  refine At.block ?_
  refine At.seq ?_
  refine At.seq ?_
  refine At.region ?_
  refine L.mv rfl rfl ?_
  refine L.pure rfl (ev_ext rfl fun w _ => typeOfN _ w) ?_
  refine L.mv rfl rfl ?_
  refine L.pure rfl (ev_mext rfl rfl (mAssignableTo _) fun w _ => assignableN w) ?_
  refine L.nil ?_
  refine At.then ?_
  refine At.condT rfl ?_
  refine At.seq ?_
  refine At.region ?_
  refine L.val rfl (ev_loadN (vs := [hnd 101, .pointer (some ⟨bv, 0, none⟩), .int .u64 150]) rfl rfl rfl rfl) (rowAll rfl) ?_
  refine L.val rfl (ev_ext (args := [rv 101 bv 150]) rfl fun w h => elemVN bv t w h) (cellIs rfl) ?_
  refine L.mv rfl rfl ?_
  refine L.op rfl (o_ext (v := fun b => rv 26 b 130) rfl rfl (fun w => valueOfN e w) fun b23 => ?_)
  refine L.op rfl (o_extSet1 (args := [rv 26 t 386, rv 26 b23 130]) rfl (b := t) (j := 0) (tb := 26) (cs := #[o]) (u := .tuple #[]) (v := .int .i64 e) (φ := CellIs ⟨b23, 0, none⟩ (.int .i64 e)) rfl (cellIs (b := b23) rfl) (fun w h1 h2 => setN t b23 e o w h1 h2) ?_)
  refine L.nil ?_
  refine At.then ?_
  refine At.seq ?_
  refine At.region ?_
  refine L.as rfl rfl ?_
  refine L.nil ?_
  refine At.then ?_
  refine At.ret ?_
  refine At.thenRet (At.inBlockRet (At.roundRet (At.inBlockRet ?_)))
  exact At.ret1 [blk t 26 #[.int .i64 e]] rfl rfl ⟨rfl, rfl⟩ (Ent.cons (Ent.drop.trans (Ent.drop.trans Ent.drop)))
  -- unused hints: ['plain']

theorem asNF_miss (x : Int) (t bv : Nat) (o : Value) : Does Tryd.prog Good 79 [.iface 26 (.int .i64 x), .iface 97 (.pointer (some ⟨t, 0, none⟩)), rv 97 bv 150, rt 95].toArray [blk bv 97 #[.pointer (some ⟨t, 0, none⟩)], blk t 95 #[o]] fun v m => v = .bool false ∧ m = [blk t 95 #[o]] := by
  refine Does.body Tryd.func79 rfl rfl fun E fr hE => ?_
  refine At.app2 ?_
  refine At.seq ?_
  refine At.region ?_
  refine L.op rfl (o_box rfl rfl fun b6 => ?_)
  refine L.as rfl rfl ?_
  refine L.nil ?_
  refine At.then ?_
  refine At.block ?_
  refine At.loop (X := Unit) (fun _ => [(0, .iface 26 (.int .i64 x)), (1, .iface 97 (.pointer (some ⟨t, 0, none⟩))), (3, rt 95), (6, .pointer (some ⟨b6, 0, none⟩))]) (fun _ => blk b6 141 #[hnd 97, .pointer (some ⟨bv, 0, none⟩), .int .u64 150] :: blk bv 97 #[.pointer (some ⟨t, 0, none⟩)] :: blk t 95 #[o] :: fr) (fun _ => True) (fun _ => 0) () trivial ⟨rfl, rfl, rfl, rfl, trivial⟩ (Ent.refl _) ?_
  rintro _ _
  refine At.block ?_
  refine At.seq ?_
  refine At.seq ?_
  refine At.region ?_
  refine L.mv rfl rfl ?_
  refine L.pure rfl (ev_ext rfl fun w _ => typeOfN _ w) ?_
  refine L.mv rfl rfl ?_
  refine L.pure rfl (ev_mext rfl rfl (mAssignableTo _) fun w _ => assignableNF w) ?_
  refine L.nil ?_
  refine At.then ?_
  refine At.condF rfl ?_
  refine At.skip ?_
  refine At.then ?_
  refine At.seq ?_
  refine At.seq ?_
  refine At.region ?_
  refine L.mv rfl rfl ?_
  refine L.pure rfl (ev_asINot (z := .nilIface) rfl rfl (by kernel_rfl) (by kernel_rfl)) ?_
  refine L.mv rfl rfl ?_
  refine L.ex rfl rfl rfl ?_
  refine L.ex rfl rfl rfl ?_
  refine L.as rfl rfl ?_
  refine L.as rfl rfl ?_
  refine L.nil ?_
  refine At.then ?_
  refine At.seq ?_
  refine At.region ?_
  refine L.mv rfl rfl ?_
  refine L.mv rfl rfl ?_
  refine L.off rfl rfl rfl rfl rfl rfl ?_
  refine L.off rfl rfl rfl rfl rfl rfl ?_
  refine L.off rfl rfl rfl rfl rfl rfl ?_
  refine L.pure rfl (ev_pick rfl rfl rfl) ?_
  refine L.nil ?_
  refine At.then ?_
  refine At.condF rfl ?_
  refine At.skip ?_
  refine At.then ?_
  refine At.seq ?_
  refine At.region ?_
  refine L.mv rfl rfl ?_
  refine L.nil ?_
  refine At.then ?_
  refine At.block ?_
  refine At.seq ?_
  refine At.region ?_
  refine L.pure rfl (ev_asINot (z := .nilIface) rfl rfl (by kernel_rfl) (by kernel_rfl)) ?_
  refine L.ex rfl rfl rfl ?_
  refine L.ex rfl rfl rfl ?_
  refine L.nil ?_
  refine At.then ?_
  refine At.condF rfl ?_
  refine At.seq ?_
  refine At.region ?_
  refine L.pure rfl (ev_asINot (z := .nilIface) rfl rfl (by kernel_rfl) (by kernel_rfl)) ?_
  refine L.ex rfl rfl rfl ?_
  refine L.ex rfl rfl rfl ?_
  refine L.nil ?_
  refine At.then ?_
  refine At.condF rfl ?_
  refine At.seq ?_
  refine At.region ?_
  refine L.as rfl rfl ?_
  refine L.nil ?_
  refine At.then ?_
  refine At.seq ?_
  refine At.region ?_
  refine L.as rfl rfl ?_
  refine L.nil ?_
  refine At.then ?_
  refine At.ret ?_
  refine At.inBlockRet (At.inBlockRet (At.roundRet (At.inBlockRet ?_)))
  exact At.ret1 [blk t 95 #[o]] rfl rfl ⟨rfl, rfl⟩ (Ent.drop.trans Ent.drop)

theorem As_fault (e : Addr) (t : Nat) (o : Value) : Does Tryd.prog Good 53 [.iface 95 (.pointer (some e)), .iface 97 (.pointer (some ⟨t, 0, none⟩))].toArray [blk t 95 #[o]] fun v m => v = .bool true ∧ m = [blk t 95 #[.pointer (some e)]] := by
  refine Does.body Tryd.func53 rfl rfl fun E fr hE => ?_
  refine At.app1 ?_
  refine At.seq ?_
  refine At.region ?_
  refine L.as rfl rfl ?_
  refine L.nil ?_
  refine At.then ?_
  refine At.seq ?_
  refine At.seq ?_
  refine At.region ?_
  refine L.mv rfl rfl ?_
  refine L.pure rfl (ev_eqlNil rfl rfl) ?_
  refine L.nil ?_
  refine At.then ?_
  refine At.condF rfl ?_
  refine At.skip ?_
  refine At.then ?_
  refine At.seq ?_
  refine At.seq ?_
  refine At.region ?_
  refine L.mv rfl rfl ?_
  refine L.pure rfl (ev_eqlNil rfl rfl) ?_
  refine L.nil ?_
  refine At.then ?_
  refine At.condF rfl ?_
  refine At.skip ?_
  refine At.then ?_
  refine At.seq ?_
  refine At.region ?_
  refine L.mv rfl rfl ?_
  refine L.op rfl (o_ext (v := fun b => rv 97 b 150) rfl rfl (fun w => valueOfPF t w) fun bv => ?_)
  refine L.op rfl (o_alloc (z := .agg #[.pointer none, .pointer none, .int .u64 0]) rfl rfl fun b5 => ?_)
  refine L.op rfl (o_storeN rfl (m := 3) (vs := [hnd 97, .pointer (some ⟨bv, 0, none⟩), .int .u64 150]) rfl rfl rfl rfl (by simp [Value.oneCell']) (by simp [Value.cells]) ?_)
  refine L.nil ?_
  refine At.then ?_
  refine At.seq ?_
  refine At.region ?_
  refine L.val rfl (ev_loadN (vs := [hnd 97, .pointer (some ⟨bv, 0, none⟩), .int .u64 150]) rfl rfl rfl rfl) (rowAll rfl) ?_
  refine L.pure rfl (ev_ext rfl fun w _ => typePF bv w) ?_
  refine L.as rfl rfl ?_
  refine L.nil ?_
  refine At.then ?_
  refine At.seq ?_
  refine At.seq ?_
  refine At.region ?_
  refine L.mv rfl rfl ?_
  refine L.pure rfl (ev_mext rfl rfl (mKind _) fun w _ => kindPF w) ?_
  refine L.pure rfl (ev_neq rfl rfl rfl) ?_
  refine L.mv rfl rfl ?_
  refine L.on rfl rfl rfl (L.vala rfl (ev_loadN (vs := [hnd 97, .pointer (some ⟨bv, 0, none⟩), .int .u64 150]) rfl rfl rfl rfl) (rowAll rfl) ?_)
  refine L.on rfl rfl rfl (L.vala rfl (ev_ext (args := [rv 97 bv 150]) (φ := CellIs ⟨bv, 0, none⟩ (.pointer (some ⟨t, 0, none⟩))) rfl fun w h => isNilPF bv t w h) (cellIs rfl) ?_)
  refine L.pure rfl (ev_pick rfl rfl rfl) ?_
  refine L.nil ?_
  refine At.then ?_
  refine At.condF rfl ?_
  refine At.skip ?_
  refine At.then ?_
  refine At.seq ?_
  refine At.region ?_
  refine L.mv rfl rfl ?_
  refine L.pure rfl (ev_mext rfl rfl (mElem _) fun w _ => elemPF w) ?_
  refine L.as rfl rfl ?_
  refine L.nil ?_
  refine At.then ?_
  refine At.seq ?_
  refine At.seq ?_
  refine At.region ?_
  refine L.mv rfl rfl ?_
  refine L.pure rfl (ev_mext rfl rfl (mKind _) fun w _ => kindF w) ?_
  refine L.pure rfl (ev_neq rfl rfl rfl) ?_
  refine L.mv rfl rfl ?_
  refine L.on rfl rfl rfl (L.vala rfl (ev_move rfl) (fun _ _ => trivial) ?_)
  refine L.on rfl rfl rfl (L.vala rfl (ev_load1 rfl rfl) (fun w hw => hE.err w hw.is) ?_)
  refine L.on rfl rfl rfl (L.vala rfl (ev_mext rfl rfl (mImplements _) fun w _ => implementsF w) (fun _ _ => trivial) ?_)
  refine L.on rfl rfl rfl (L.vala rfl (ev_not rfl rfl) (fun _ _ => trivial) ?_)
  refine L.pure rfl (ev_pick rfl rfl rfl) ?_
  refine L.nil ?_
  refine At.then ?_
  refine At.condF rfl ?_
  refine At.skip ?_
  refine At.then ?_
  refine At.seq ?_
  refine At.region ?_
  refine L.mv rfl rfl ?_
  refine L.mv rfl rfl ?_
  refine L.val rfl (ev_loadN (vs := [hnd 97, .pointer (some ⟨bv, 0, none⟩), .int .u64 150]) rfl rfl rfl rfl) (rowAll rfl) ?_
  refine L.mv rfl rfl ?_
  refine L.op rfl (o_call rfl rfl rfl hE (asF_hit e t bv o) (Ent.sel2 (.tail (.head)) (.tail (.head))) ?_)
  rintro v m ⟨rfl, rfl⟩
  refine At.app1 ?_
  refine L.as rfl rfl ?_
  refine L.nil ?_
  refine At.then ?_
  refine At.ret ?_
  exact At.ret1 [blk t 95 #[.pointer (some e)]] rfl rfl ⟨rfl, rfl⟩ (Ent.cons Ent.drop)

theorem As_errno (e : Int) (t : Nat) (o : Value) : Does Tryd.prog Good 53 [.iface 26 (.int .i64 e), .iface 101 (.pointer (some ⟨t, 0, none⟩))].toArray [blk t 26 #[o]] fun v m => v = .bool true ∧ m = [blk t 26 #[.int .i64 e]] := by
  refine Does.body Tryd.func53 rfl rfl fun E fr hE => ?_
  refine At.app1 ?_
  refine At.seq ?_
  refine At.region ?_
  refine L.as rfl rfl ?_
  refine L.nil ?_
  refine At.then ?_
  refine At.seq ?_
  refine At.seq ?_
  refine At.region ?_
  refine L.mv rfl rfl ?_
  refine L.pure rfl (ev_eqlNil rfl rfl) ?_
  refine L.nil ?_
  refine At.then ?_
  refine At.condF rfl ?_
  refine At.skip ?_
  refine At.then ?_
  refine At.seq ?_
  refine At.seq ?_
  refine At.region ?_
  refine L.mv rfl rfl ?_
  refine L.pure rfl (ev_eqlNil rfl rfl) ?_
  refine L.nil ?_
  refine At.then ?_
  refine At.condF rfl ?_
  refine At.skip ?_
  refine At.then ?_
  refine At.seq ?_
  refine At.region ?_
  refine L.mv rfl rfl ?_
  refine L.op rfl (o_ext (v := fun b => rv 101 b 150) rfl rfl (fun w => valueOfPN t w) fun bv => ?_)
  refine L.op rfl (o_alloc (z := .agg #[.pointer none, .pointer none, .int .u64 0]) rfl rfl fun b5 => ?_)
  refine L.op rfl (o_storeN rfl (m := 3) (vs := [hnd 101, .pointer (some ⟨bv, 0, none⟩), .int .u64 150]) rfl rfl rfl rfl (by simp [Value.oneCell']) (by simp [Value.cells]) ?_)
  refine L.nil ?_
  refine At.then ?_
  refine At.seq ?_
  refine At.region ?_
  refine L.val rfl (ev_loadN (vs := [hnd 101, .pointer (some ⟨bv, 0, none⟩), .int .u64 150]) rfl rfl rfl rfl) (rowAll rfl) ?_
  refine L.pure rfl (ev_ext rfl fun w _ => typePN bv w) ?_
  refine L.as rfl rfl ?_
  refine L.nil ?_
  refine At.then ?_
  refine At.seq ?_
  refine At.seq ?_
  refine At.region ?_
  refine L.mv rfl rfl ?_
  refine L.pure rfl (ev_mext rfl rfl (mKind _) fun w _ => kindPN w) ?_
  refine L.pure rfl (ev_neq rfl rfl rfl) ?_
  refine L.mv rfl rfl ?_
  refine L.on rfl rfl rfl (L.vala rfl (ev_loadN (vs := [hnd 101, .pointer (some ⟨bv, 0, none⟩), .int .u64 150]) rfl rfl rfl rfl) (rowAll rfl) ?_)
  refine L.on rfl rfl rfl (L.vala rfl (ev_ext (args := [rv 101 bv 150]) (φ := CellIs ⟨bv, 0, none⟩ (.pointer (some ⟨t, 0, none⟩))) rfl fun w h => isNilPN bv t w h) (cellIs rfl) ?_)
  refine L.pure rfl (ev_pick rfl rfl rfl) ?_
  refine L.nil ?_
  refine At.then ?_
  refine At.condF rfl ?_
  refine At.skip ?_
  refine At.then ?_
  refine At.seq ?_
  refine At.region ?_
  refine L.mv rfl rfl ?_
  refine L.pure rfl (ev_mext rfl rfl (mElem _) fun w _ => elemPN w) ?_
  refine L.as rfl rfl ?_
  refine L.nil ?_
  refine At.then ?_
  refine At.seq ?_
  refine At.seq ?_
  refine At.region ?_
  refine L.mv rfl rfl ?_
  refine L.pure rfl (ev_mext rfl rfl (mKind _) fun w _ => kindN w) ?_
  refine L.pure rfl (ev_neq rfl rfl rfl) ?_
  refine L.mv rfl rfl ?_
  refine L.on rfl rfl rfl (L.vala rfl (ev_move rfl) (fun _ _ => trivial) ?_)
  refine L.on rfl rfl rfl (L.vala rfl (ev_load1 rfl rfl) (fun w hw => hE.err w hw.is) ?_)
  refine L.on rfl rfl rfl (L.vala rfl (ev_mext rfl rfl (mImplements _) fun w _ => implementsN w) (fun _ _ => trivial) ?_)
  refine L.on rfl rfl rfl (L.vala rfl (ev_not rfl rfl) (fun _ _ => trivial) ?_)
  refine L.pure rfl (ev_pick rfl rfl rfl) ?_
  refine L.nil ?_
  refine At.then ?_
  refine At.condF rfl ?_
  refine At.skip ?_
  refine At.then ?_
  refine At.seq ?_
  refine At.region ?_
  refine L.mv rfl rfl ?_
  refine L.mv rfl rfl ?_
  refine L.val rfl (ev_loadN (vs := [hnd 101, .pointer (some ⟨bv, 0, none⟩), .int .u64 150]) rfl rfl rfl rfl) (rowAll rfl) ?_
  refine L.mv rfl rfl ?_
  refine L.op rfl (o_call rfl rfl rfl hE (asN_hit e t bv o) (Ent.sel2 (.tail (.head)) (.tail (.head))) ?_)
  rintro v m ⟨rfl, rfl⟩
  refine At.app1 ?_
  refine L.as rfl rfl ?_
  refine L.nil ?_
  refine At.then ?_
  refine At.ret ?_
  exact At.ret1 [blk t 26 #[.int .i64 e]] rfl rfl ⟨rfl, rfl⟩ (Ent.cons Ent.drop)

theorem As_miss (x : Int) (t : Nat) (o : Value) : Does Tryd.prog Good 53 [.iface 26 (.int .i64 x), .iface 97 (.pointer (some ⟨t, 0, none⟩))].toArray [blk t 95 #[o]] fun v m => v = .bool false ∧ m = [blk t 95 #[o]] := by
  refine Does.body Tryd.func53 rfl rfl fun E fr hE => ?_
  refine At.app1 ?_
  refine At.seq ?_
  refine At.region ?_
  refine L.as rfl rfl ?_
  refine L.nil ?_
  refine At.then ?_
  refine At.seq ?_
  refine At.seq ?_
  refine At.region ?_
  refine L.mv rfl rfl ?_
  refine L.pure rfl (ev_eqlNil rfl rfl) ?_
  refine L.nil ?_
  refine At.then ?_
  refine At.condF rfl ?_
  refine At.skip ?_
  refine At.then ?_
  refine At.seq ?_
  refine At.seq ?_
  refine At.region ?_
  refine L.mv rfl rfl ?_
  refine L.pure rfl (ev_eqlNil rfl rfl) ?_
  refine L.nil ?_
  refine At.then ?_
  refine At.condF rfl ?_
  refine At.skip ?_
  refine At.then ?_
  refine At.seq ?_
  refine At.region ?_
  refine L.mv rfl rfl ?_
  refine L.op rfl (o_ext (v := fun b => rv 97 b 150) rfl rfl (fun w => valueOfPF t w) fun bv => ?_)
  refine L.op rfl (o_alloc (z := .agg #[.pointer none, .pointer none, .int .u64 0]) rfl rfl fun b5 => ?_)
  refine L.op rfl (o_storeN rfl (m := 3) (vs := [hnd 97, .pointer (some ⟨bv, 0, none⟩), .int .u64 150]) rfl rfl rfl rfl (by simp [Value.oneCell']) (by simp [Value.cells]) ?_)
  refine L.nil ?_
  refine At.then ?_
  refine At.seq ?_
  refine At.region ?_
  refine L.val rfl (ev_loadN (vs := [hnd 97, .pointer (some ⟨bv, 0, none⟩), .int .u64 150]) rfl rfl rfl rfl) (rowAll rfl) ?_
  refine L.pure rfl (ev_ext rfl fun w _ => typePF bv w) ?_
  refine L.as rfl rfl ?_
  refine L.nil ?_
  refine At.then ?_
  refine At.seq ?_
  refine At.seq ?_
  refine At.region ?_
  refine L.mv rfl rfl ?_
  refine L.pure rfl (ev_mext rfl rfl (mKind _) fun w _ => kindPF w) ?_
  refine L.pure rfl (ev_neq rfl rfl rfl) ?_
  refine L.mv rfl rfl ?_
  refine L.on rfl rfl rfl (L.vala rfl (ev_loadN (vs := [hnd 97, .pointer (some ⟨bv, 0, none⟩), .int .u64 150]) rfl rfl rfl rfl) (rowAll rfl) ?_)
  refine L.on rfl rfl rfl (L.vala rfl (ev_ext (args := [rv 97 bv 150]) (φ := CellIs ⟨bv, 0, none⟩ (.pointer (some ⟨t, 0, none⟩))) rfl fun w h => isNilPF bv t w h) (cellIs rfl) ?_)
  refine L.pure rfl (ev_pick rfl rfl rfl) ?_
  refine L.nil ?_
  refine At.then ?_
  refine At.condF rfl ?_
  refine At.skip ?_
  refine At.then ?_
  refine At.seq ?_
  refine At.region ?_
  refine L.mv rfl rfl ?_
  refine L.pure rfl (ev_mext rfl rfl (mElem _) fun w _ => elemPF w) ?_
  refine L.as rfl rfl ?_
  refine L.nil ?_
  refine At.then ?_
  refine At.seq ?_
  refine At.seq ?_
  refine At.region ?_
  refine L.mv rfl rfl ?_
  refine L.pure rfl (ev_mext rfl rfl (mKind _) fun w _ => kindF w) ?_
  refine L.pure rfl (ev_neq rfl rfl rfl) ?_
  refine L.mv rfl rfl ?_
  refine L.on rfl rfl rfl (L.vala rfl (ev_move rfl) (fun _ _ => trivial) ?_)
  refine L.on rfl rfl rfl (L.vala rfl (ev_load1 rfl rfl) (fun w hw => hE.err w hw.is) ?_)
  refine L.on rfl rfl rfl (L.vala rfl (ev_mext rfl rfl (mImplements _) fun w _ => implementsF w) (fun _ _ => trivial) ?_)
  refine L.on rfl rfl rfl (L.vala rfl (ev_not rfl rfl) (fun _ _ => trivial) ?_)
  refine L.pure rfl (ev_pick rfl rfl rfl) ?_
  refine L.nil ?_
  refine At.then ?_
  refine At.condF rfl ?_
  refine At.skip ?_
  refine At.then ?_
  refine At.seq ?_
  refine At.region ?_
  refine L.mv rfl rfl ?_
  refine L.mv rfl rfl ?_
  refine L.val rfl (ev_loadN (vs := [hnd 97, .pointer (some ⟨bv, 0, none⟩), .int .u64 150]) rfl rfl rfl rfl) (rowAll rfl) ?_
  refine L.mv rfl rfl ?_
  refine L.op rfl (o_call rfl rfl rfl hE (asNF_miss x t bv o) (Ent.sel2 (.tail (.head)) (.tail (.head))) ?_)
  rintro v m ⟨rfl, rfl⟩
  refine At.app1 ?_
  refine L.as rfl rfl ?_
  refine L.nil ?_
  refine At.then ?_
  refine At.ret ?_
  exact At.ret1 [blk t 95 #[o]] rfl rfl ⟨rfl, rfl⟩ (Ent.cons Ent.drop)
end Go.Proofs.YtagkobkmaigfcaaDoor
