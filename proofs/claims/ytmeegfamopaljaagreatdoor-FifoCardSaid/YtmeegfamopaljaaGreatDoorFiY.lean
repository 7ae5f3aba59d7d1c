/- A host's calls, over a disk that is well. -/
import Derived.Test.YtmeegfamopaljaaGreatDoorFiX
import Derived.Test.YtmeegfamopaljaaGreatDoorFiH
import Derived.Test.YtmeegfamopaljaaGreatDoorFiJ
import Derived.Test.YtmeegfamopaljaaGreatDoorFiL
namespace Go.SL
open Go Go.RowKit
theorem At.app6 {E : Env} {n : Nat} {D : List Deferred} {ts : List (Nat × Value)} {p0 p1 p2 p3 p4 p5 : HP} {fr : List HP} {K : Act → World → Prop} (h : At E n D ts (p0 :: p1 :: p2 :: p3 :: p4 :: p5 :: fr) K) : At E n D ts ([p0, p1, p2, p3, p4, p5] ++ fr) K := h
theorem At.app7 {E : Env} {n : Nat} {D : List Deferred} {ts : List (Nat × Value)} {p0 p1 p2 p3 p4 p5 p6 : HP} {fr : List HP} {K : Act → World → Prop} (h : At E n D ts (p0 :: p1 :: p2 :: p3 :: p4 :: p5 :: p6 :: fr) K) : At E n D ts ([p0, p1, p2, p3, p4, p5, p6] ++ fr) K := h
end Go.SL
namespace Go.Proofs.YtmeegfamopaljaaGreatDoor
open Go Go.RowKit Go.SL
abbrev hostP (h d f : Nat) : HP := hostB h d (some ⟨f, 0, none⟩)
abbrev hostL (h f e j d : Nat) (p : EA) (S : FK.En) (J : FK.Jn) (σ : FK.Dsk) : List HP := hostP h d f :: keepL f e j d p S J σ
abbrev noted (σ : FK.Dsk) (J : FK.Jn) (op n : Nat) : FK.Dsk := σ.logs J.n (txt (FK.frame (FK.entryB op n)))
theorem quietE {σ : FK.Dsk} (h : FK.Quiet σ) : ({ σ with left := -1, full := -1 } : FK.Dsk) = σ := h.rested
theorem rested3 {σ : FK.Dsk} (h : FK.Quiet σ) : σ.spent.rested = σ := h.rested
set_option maxRecDepth 10000 in
set_option maxHeartbeats 1000000 in
theorem hpoll0_does {h f e j d : Nat} {p : EA} {S : FK.En} {J : FK.Jn} {σ : FK.Dsk} (hQ : FK.Quiet σ) (hq : S.queue = []) : Does Tryz.prog Good 24 [ptr h, wellV].toArray (hostL h f e j d p S J σ) fun v m => v = .tuple #[taskV 0 0 0 0, .bool false, .int .i64 0] ∧ m = hostL h f e j d p S J σ := by
  refine Does.body Tryz.func24 rfl rfl fun E fr hE => ?_
  refine At.app5 ?_
  refine At.seq ?_
  refine At.region ?_
  refine L.op rfl (o_box rfl rfl fun b3 => ?_)
  refine L.op rfl (o_alloc (z := .agg #[.int .u64 0, .int .i64 0, .int .i64 0, .int .u64 0]) rfl rfl fun b4 => ?_)
  refine L.as rfl rfl ?_
  refine L.as rfl rfl ?_
  refine L.nil ?_
  refine At.then ?_
  refine At.seq ?_
  refine At.seq ?_
  refine At.region ?_
  refine L.mv rfl rfl ?_
  refine L.nc rfl rfl ?_
  refine L.fa 1 rfl rfl rfl ?_
  refine L.ld rfl rfl rfl rfl ?_
  refine L.pure rfl (ev_eqlNilP rfl rfl rfl) ?_
  refine L.nil ?_
  refine At.then ?_
  refine At.condF rfl ?_
  refine At.skip ?_
  refine At.then ?_
  refine At.seq ?_
  refine At.region ?_
  refine L.mv rfl rfl ?_
  refine L.val rfl (ev_loadN (vs := fallL (-1) (-1) 0 0) rfl rfl rfl rfl) (rowAll rfl) ?_
  refine L.op rfl (o_call rfl rfl rfl hE (hbefore_does (-1) (-1) 0 0) (Ent.sel2 (.tail (.tail .head)) (.tail (.tail (.tail (.tail (.tail .head)))))) ?_)
  rintro v m ⟨rfl, rfl⟩
  refine At.app2 ?_
  rw [quietE hQ]
  refine At.ent (l' := fkB f e j :: engX e p S :: jrnlAt j d J :: diskAt d σ :: hostP h d f :: blk b4 55 (taskL 0 0 0 0).toArray :: blk b3 41 (fallL (-1) (-1) 0 0).toArray :: fr) (by show Ent (_ :: _ :: blk b4 55 (taskL 0 0 0 0).toArray :: blk b3 41 (fallL (-1) (-1) 0 0).toArray :: _) _; exact Ent.auto) ?_
  refine L.nil ?_
  refine At.then ?_
  refine At.seq ?_
  refine At.region ?_
  refine L.mv rfl rfl ?_
  refine L.nc rfl rfl ?_
  refine L.fa 1 rfl rfl rfl ?_
  refine L.ld rfl rfl rfl rfl ?_
  refine L.op rfl (o_call rfl rfl rfl hE (fpoll0_does hq) (Ent.refl _) ?_)
  rintro v m ⟨rfl, rfl⟩
  refine At.app4 ?_
  refine L.mv rfl rfl ?_
  refine L.ex rfl rfl rfl ?_
  refine L.ex rfl rfl rfl ?_
  refine L.ex rfl rfl rfl ?_
  refine L.op rfl (o_alloc (z := .agg #[.int .u64 0, .int .i64 0, .int .i64 0, .int .u64 0]) rfl rfl fun b7 => ?_)
  refine L.op rfl (o_storeN rfl (m := 4) (vs := taskL 0 0 0 0) rfl rfl rfl rfl (by simp [Value.oneCell']) (by show 0 + 4 ≤ 4; omega) ?_)
  refine At.blkAs b7 (taskL 0 0 0 0).toArray rfl ?_
  refine L.as rfl rfl ?_
  refine L.as rfl rfl ?_
  refine L.nil ?_
  refine At.then ?_
  refine At.seq ?_
  refine At.ent (l' := hostP h d f :: diskAt d σ :: fkB f e j :: engX e p S :: jrnlAt j d J :: blk b7 55 (taskL 0 0 0 0).toArray :: blk b4 55 (taskL 0 0 0 0).toArray :: blk b3 41 (fallL (-1) (-1) 0 0).toArray :: fr) Ent.auto ?_
  refine At.region ?_
  refine L.mv rfl rfl ?_
  refine L.val rfl (ev_loadN (vs := fallL (-1) (-1) 0 0) rfl rfl rfl rfl) (rowAll rfl) ?_
  refine L.op rfl (o_call rfl rfl rfl hE (hafter_does (-1) (-1) 0 0 hQ.down) (Ent.refl _) ?_)
  rintro v m ⟨rfl, rfl⟩
  refine At.app2 ?_
  rw [hQ.rested]
  refine L.nil ?_
  refine At.then ?_
  refine At.seq ?_
  refine Dr.start rfl ?_
  refine Dr.ld 0 rfl rfl (by kernel_rfl) (ev_loadN (vs := taskL 0 0 0 0) rfl rfl rfl rfl) (rowAll rfl) ?_
  refine Dr.p 1 rfl rfl (by kernel_rfl) (ev_move rfl) ?_
  refine Dr.p 2 rfl rfl (by kernel_rfl) (ev_move rfl) ?_
  refine Dr.run 3 rfl rfl (by kernel_rfl) (o_call rfl rfl rfl hE number_nil (Ent.refl _) ?_)
  rintro v m ⟨rfl, rfl⟩
  refine At.app0 ?_
  refine Dr.kept [true] (by kernel_rfl) (Kept.cons (rowAll rfl) Kept.nil) ?_
  refine Dr.run 4 rfl rfl (by kernel_rfl) (o_storeN rfl (m := 4) (vs := taskL 0 0 0 0) rfl rfl rfl rfl (by simp [Value.oneCell']) (by show 0 + 4 ≤ 4; omega) ?_)
  refine Dr.kept [false] (by kernel_rfl) Kept.nil ?_
  refine Dr.p 5 rfl rfl (by kernel_rfl) (ev_assign rfl) ?_
  refine Dr.p 6 rfl rfl (by kernel_rfl) (ev_assign rfl) ?_
  refine Dr.done (by kernel_rfl) ?_
  refine At.then ?_
  refine At.ret ?_
  refine At.blkAs b4 (taskL 0 0 0 0).toArray rfl ?_
  refine At.res3 (hostL h f e j d p S J σ) rfl (Res.cellN (vs := taskL 0 0 0 0) rfl rfl rfl rfl (rowAll rfl)) (Res.tmp rfl) (Res.tmp rfl) ⟨rfl, rfl⟩ ?_
  show Ent _ (hostP h d f :: fkB f e j :: engX e p S :: jrnlAt j d J :: diskAt d σ :: fr)
  exact Ent.auto
set_option maxRecDepth 10000 in
set_option maxHeartbeats 1000000 in
theorem hpoll1_does {h f e j d : Nat} {p : EA} {S : FK.En} {J : FK.Jn} {σ : FK.Dsk} (hS : FK.Ok S) (hJ : J.n < 100) (hb : J.broken = 0) (hr : Roomy σ) (hQ : FK.Quiet σ) {id k : Nat} {q : List FK.Pl} {R : FK.Rn} {s : FK.Sp} {nd : FK.Node} (hq : S.queue = ⟨id, (k : Int), 0⟩ :: q) (hR : S.getR id = some R) (hs : R.steps[k]? = some s) (hn : R.fl.nodes[k]? = some nd) (hsets : S.sets + 1 < 9223372036854775807) (htok : S.lastToken < 9223372036854775807) : Does Tryz.prog Good 24 [ptr h, wellV].toArray (hostL h f e j d p S J σ) fun v m => v = .tuple #[taskV id k (s.tries + 1) (S.lastToken + 1), .bool true, .int .i64 0] ∧ m = hostL h f e j d p (S.hand ⟨id, (k : Int), 0⟩ q R s nd) J (noted σ J 2 0) := by
  have hadd := hQ.add hb (txt (FK.frame (FK.entryB 2 0)))
  refine Does.body Tryz.func24 rfl rfl fun E fr hE => ?_
  refine At.app5 ?_
  refine At.seq ?_
  refine At.region ?_
  refine L.op rfl (o_box rfl rfl fun b3 => ?_)
  refine L.op rfl (o_alloc (z := .agg #[.int .u64 0, .int .i64 0, .int .i64 0, .int .u64 0]) rfl rfl fun b4 => ?_)
  refine L.as rfl rfl ?_
  refine L.as rfl rfl ?_
  refine L.nil ?_
  refine At.then ?_
  refine At.seq ?_
  refine At.seq ?_
  refine At.region ?_
  refine L.mv rfl rfl ?_
  refine L.nc rfl rfl ?_
  refine L.fa 1 rfl rfl rfl ?_
  refine L.ld rfl rfl rfl rfl ?_
  refine L.pure rfl (ev_eqlNilP rfl rfl rfl) ?_
  refine L.nil ?_
  refine At.then ?_
  refine At.condF rfl ?_
  refine At.skip ?_
  refine At.then ?_
  refine At.seq ?_
  refine At.region ?_
  refine L.mv rfl rfl ?_
  refine L.val rfl (ev_loadN (vs := fallL (-1) (-1) 0 0) rfl rfl rfl rfl) (rowAll rfl) ?_
  refine L.op rfl (o_call rfl rfl rfl hE (hbefore_does (-1) (-1) 0 0) (Ent.sel2 (.tail (.tail .head)) (.tail (.tail (.tail (.tail (.tail .head)))))) ?_)
  rintro v m ⟨rfl, rfl⟩
  refine At.app2 ?_
  rw [quietE hQ]
  refine At.ent (l' := fkB f e j :: engX e p S :: jrnlAt j d J :: diskAt d σ :: hostP h d f :: blk b4 55 (taskL 0 0 0 0).toArray :: blk b3 41 (fallL (-1) (-1) 0 0).toArray :: fr) (by show Ent (_ :: _ :: blk b4 55 (taskL 0 0 0 0).toArray :: blk b3 41 (fallL (-1) (-1) 0 0).toArray :: _) _; exact Ent.auto) ?_
  refine L.nil ?_
  refine At.then ?_
  refine At.seq ?_
  refine At.region ?_
  refine L.mv rfl rfl ?_
  refine L.nc rfl rfl ?_
  refine L.fa 1 rfl rfl rfl ?_
  refine L.ld rfl rfl rfl rfl ?_
  refine L.op rfl (o_call rfl rfl rfl hE (fpoll1_does hS hJ hr hq hR hs hn hsets htok) (Ent.refl _) ?_)
  rintro v m hv
  obtain ⟨rfl, rfl⟩ : v = .tuple #[taskV id k (s.tries + 1) (S.lastToken + 1), .bool true, .nilIface] ∧ m = keepL f e j d p (S.hand ⟨id, (k : Int), 0⟩ q R s nd) J (noted σ J 2 0).spent := by
    unfold PollPost at hv
    rw [hadd] at hv
    rcases hv with ⟨_, h1, h2⟩ | ⟨h1, _⟩
    · exact ⟨h1, h2⟩
    · exact absurd rfl h1
  refine At.app4 ?_
  refine L.mv rfl rfl ?_
  refine L.ex rfl rfl rfl ?_
  refine L.ex rfl rfl rfl ?_
  refine L.ex rfl rfl rfl ?_
  refine L.op rfl (o_alloc (z := .agg #[.int .u64 0, .int .i64 0, .int .i64 0, .int .u64 0]) rfl rfl fun b7 => ?_)
  refine L.op rfl (o_storeN rfl (m := 4) (vs := taskL id k (s.tries + 1) (S.lastToken + 1)) rfl rfl rfl rfl (by simp [Value.oneCell']) (by show 0 + 4 ≤ 4; omega) ?_)
  refine At.blkAs b7 (taskL id k (s.tries + 1) (S.lastToken + 1)).toArray rfl ?_
  refine L.as rfl rfl ?_
  refine L.as rfl rfl ?_
  refine L.nil ?_
  refine At.then ?_
  refine At.seq ?_
  refine At.ent (l' := hostP h d f :: diskAt d (noted σ J 2 0).spent :: fkB f e j :: engX e p (S.hand ⟨id, (k : Int), 0⟩ q R s nd) :: jrnlAt j d J :: blk b7 55 (taskL id k (s.tries + 1) (S.lastToken + 1)).toArray :: blk b4 55 (taskL 0 0 0 0).toArray :: blk b3 41 (fallL (-1) (-1) 0 0).toArray :: fr) Ent.auto ?_
  refine At.region ?_
  refine L.mv rfl rfl ?_
  refine L.val rfl (ev_loadN (vs := fallL (-1) (-1) 0 0) rfl rfl rfl rfl) (rowAll rfl) ?_
  refine L.op rfl (o_call rfl rfl rfl hE (hafter_does (σ := (noted σ J 2 0).spent) (-1) (-1) 0 0 hQ.down) (Ent.refl _) ?_)
  rintro v m ⟨rfl, rfl⟩
  refine At.app2 ?_
  rw [rested3 (hQ.logs _ _)]
  refine L.nil ?_
  refine At.then ?_
  refine At.seq ?_
  refine Dr.start rfl ?_
  refine Dr.ld 0 rfl rfl (by kernel_rfl) (ev_loadN (vs := taskL id k (s.tries + 1) (S.lastToken + 1)) rfl rfl rfl rfl) (rowAll rfl) ?_
  refine Dr.p 1 rfl rfl (by kernel_rfl) (ev_move rfl) ?_
  refine Dr.p 2 rfl rfl (by kernel_rfl) (ev_move rfl) ?_
  refine Dr.run 3 rfl rfl (by kernel_rfl) (o_call rfl rfl rfl hE number_nil (Ent.refl _) ?_)
  rintro v m ⟨rfl, rfl⟩
  refine At.app0 ?_
  refine Dr.kept [true] (by kernel_rfl) (Kept.cons (rowAll rfl) Kept.nil) ?_
  refine Dr.run 4 rfl rfl (by kernel_rfl) (o_storeN rfl (m := 4) (vs := taskL id k (s.tries + 1) (S.lastToken + 1)) rfl rfl rfl rfl (by simp [Value.oneCell']) (by show 0 + 4 ≤ 4; omega) ?_)
  refine Dr.kept [false] (by kernel_rfl) Kept.nil ?_
  refine Dr.p 5 rfl rfl (by kernel_rfl) (ev_assign rfl) ?_
  refine Dr.p 6 rfl rfl (by kernel_rfl) (ev_assign rfl) ?_
  refine Dr.done (by kernel_rfl) ?_
  refine At.then ?_
  refine At.ret ?_
  refine At.blkAs b4 (taskL id k (s.tries + 1) (S.lastToken + 1)).toArray rfl ?_
  refine At.res3 (hostL h f e j d p (S.hand ⟨id, (k : Int), 0⟩ q R s nd) J (noted σ J 2 0)) rfl (Res.cellN (vs := taskL id k (s.tries + 1) (S.lastToken + 1)) rfl rfl rfl rfl (rowAll rfl)) (Res.tmp rfl) (Res.tmp rfl) ⟨rfl, rfl⟩ ?_
  show Ent _ (hostP h d f :: fkB f e j :: engX e p (S.hand ⟨id, (k : Int), 0⟩ q R s nd) :: jrnlAt j d J :: diskAt d (noted σ J 2 0) :: fr)
  exact Ent.auto
set_option maxRecDepth 10000 in
set_option maxHeartbeats 1000000 in
theorem hdo4_does {h f e j d n : Nat} {p : EA} {S : FK.En} {J : FK.Jn} {σ : FK.Dsk} {Q : Int → FK.En → FK.Jn → FK.Dsk → Prop} (hQ : FK.Quiet σ)
    (hC : Does Tryz.prog Good 56 [ptr f, natV n].toArray (keepL f e j d p S J σ) fun v m => ∃ c U J' σ', v = errV c ∧ σ'.down = false ∧ Q c U J' σ' ∧ m = keepL f e j d p U J' σ') : Does Tryz.prog Good 25 [ptr h, .int .i64 4, natV n, wellV].toArray (hostL h f e j d p S J σ) fun v m => ∃ c U J' σ', v = .int .i64 c ∧ Q c U J' σ' ∧ m = hostL h f e j d p U J' σ'.rested := by
  refine Does.body Tryz.func25 rfl rfl fun E fr hE => ?_
  refine At.app5 ?_
  refine At.seq ?_
  refine At.region ?_
  refine L.op rfl (o_box rfl rfl fun b7 => ?_)
  refine L.as rfl rfl ?_
  refine L.nil ?_
  refine At.then ?_
  refine At.seq ?_
  refine At.seq ?_
  refine At.region ?_
  refine L.mv rfl rfl ?_
  refine L.nc rfl rfl ?_
  refine L.fa 1 rfl rfl rfl ?_
  refine L.ld rfl rfl rfl rfl ?_
  refine L.pure rfl (ev_eqlNilP rfl rfl rfl) ?_
  refine L.nil ?_
  refine At.then ?_
  refine At.condF rfl ?_
  refine At.skip ?_
  refine At.then ?_
  refine At.seq ?_
  refine At.region ?_
  refine L.mv rfl rfl ?_
  refine L.val rfl (ev_loadN (vs := fallL (-1) (-1) 0 0) rfl rfl rfl rfl) (rowAll rfl) ?_
  refine L.op rfl (o_call rfl rfl rfl hE (hbefore_does (-1) (-1) 0 0) (Ent.sel2 (.tail .head) (.tail (.tail (.tail (.tail .head))))) ?_)
  rintro v m ⟨rfl, rfl⟩
  refine At.app2 ?_
  rw [quietE hQ]
  refine At.ent (l' := fkB f e j :: engX e p S :: jrnlAt j d J :: diskAt d σ :: hostP h d f :: blk b7 41 (fallL (-1) (-1) 0 0).toArray :: fr) (by show Ent (_ :: _ :: blk b7 41 (fallL (-1) (-1) 0 0).toArray :: _) _; exact Ent.auto) ?_
  refine L.nil ?_
  refine At.then ?_
  refine At.seq ?_
  refine At.region ?_
  refine L.as rfl rfl ?_
  refine L.nil ?_
  refine At.then ?_
  refine At.seq ?_
  refine At.seq ?_
  refine At.region ?_
  refine L.mv rfl rfl ?_
  refine L.nil ?_
  refine At.then ?_
  refine At.block ?_
  refine At.seq ?_
  refine At.region ?_
  refine L.pure rfl (ev_eql rfl rfl rfl) ?_
  refine L.as rfl rfl ?_
  refine L.nil ?_
  refine At.then ?_
  refine At.condF rfl ?_
  refine At.seq ?_
  refine At.region ?_
  refine L.pure rfl (ev_eql rfl rfl rfl) ?_
  refine L.as rfl rfl ?_
  refine L.nil ?_
  refine At.then ?_
  refine At.condT rfl ?_
  refine At.region ?_
  refine L.mv rfl rfl ?_
  refine L.nc rfl rfl ?_
  refine L.fa 1 rfl rfl rfl ?_
  refine L.ld rfl rfl rfl rfl ?_
  refine L.mv rfl rfl ?_
  refine L.op rfl (o_call rfl rfl rfl hE hC (Ent.refl _) ?_)
  rintro v m ⟨c, U, J', σ', rfl, hdn, hQ', rfl⟩
  refine At.app4 ?_
  refine L.as rfl rfl ?_
  refine L.nil ?_
  refine At.inBlock (At.then ?_)
  refine At.seq ?_
  refine At.ent (l' := hostP h d f :: diskAt d σ' :: fkB f e j :: engX e p U :: jrnlAt j d J' :: blk b7 41 (fallL (-1) (-1) 0 0).toArray :: fr) Ent.auto ?_
  refine At.region ?_
  refine L.mv rfl rfl ?_
  refine L.val rfl (ev_loadN (vs := fallL (-1) (-1) 0 0) rfl rfl rfl rfl) (rowAll rfl) ?_
  refine L.op rfl (o_call rfl rfl rfl hE (hafter_does (-1) (-1) 0 0 hdn) (Ent.refl _) ?_)
  rintro v m ⟨rfl, rfl⟩
  refine At.app2 ?_
  refine L.nil ?_
  refine At.then ?_
  refine At.seq ?_
  refine At.region ?_
  refine L.mv rfl rfl ?_
  refine L.op rfl (o_call rfl rfl rfl hE (errno_does c) (Ent.refl _) ?_)
  rintro v m ⟨rfl, rfl⟩
  refine At.app0 ?_
  refine L.as rfl rfl ?_
  refine L.nil ?_
  refine At.then ?_
  refine At.ret ?_
  refine At.ret1 (hostL h f e j d p U J' σ'.rested) rfl rfl ⟨c, U, J', σ', rfl, hQ', rfl⟩ ?_
  show Ent _ (hostP h d f :: fkB f e j :: engX e p U :: jrnlAt j d J' :: diskAt d σ'.rested :: fr)
  exact Ent.auto
set_option maxRecDepth 10000 in
set_option maxHeartbeats 1000000 in
theorem hdo5_does {h f e j d n : Nat} {p : EA} {S : FK.En} {J : FK.Jn} {σ : FK.Dsk} {Q : Int → FK.En → FK.Jn → FK.Dsk → Prop} (hQ : FK.Quiet σ)
    (hC : Does Tryz.prog Good 57 [ptr f, natV n].toArray (keepL f e j d p S J σ) fun v m => ∃ c U J' σ', v = errV c ∧ σ'.down = false ∧ Q c U J' σ' ∧ m = keepL f e j d p U J' σ') : Does Tryz.prog Good 25 [ptr h, .int .i64 5, natV n, wellV].toArray (hostL h f e j d p S J σ) fun v m => ∃ c U J' σ', v = .int .i64 c ∧ Q c U J' σ' ∧ m = hostL h f e j d p U J' σ'.rested := by
  refine Does.body Tryz.func25 rfl rfl fun E fr hE => ?_
  refine At.app5 ?_
  refine At.seq ?_
  refine At.region ?_
  refine L.op rfl (o_box rfl rfl fun b7 => ?_)
  refine L.as rfl rfl ?_
  refine L.nil ?_
  refine At.then ?_
  refine At.seq ?_
  refine At.seq ?_
  refine At.region ?_
  refine L.mv rfl rfl ?_
  refine L.nc rfl rfl ?_
  refine L.fa 1 rfl rfl rfl ?_
  refine L.ld rfl rfl rfl rfl ?_
  refine L.pure rfl (ev_eqlNilP rfl rfl rfl) ?_
  refine L.nil ?_
  refine At.then ?_
  refine At.condF rfl ?_
  refine At.skip ?_
  refine At.then ?_
  refine At.seq ?_
  refine At.region ?_
  refine L.mv rfl rfl ?_
  refine L.val rfl (ev_loadN (vs := fallL (-1) (-1) 0 0) rfl rfl rfl rfl) (rowAll rfl) ?_
  refine L.op rfl (o_call rfl rfl rfl hE (hbefore_does (-1) (-1) 0 0) (Ent.sel2 (.tail .head) (.tail (.tail (.tail (.tail .head))))) ?_)
  rintro v m ⟨rfl, rfl⟩
  refine At.app2 ?_
  rw [quietE hQ]
  refine At.ent (l' := fkB f e j :: engX e p S :: jrnlAt j d J :: diskAt d σ :: hostP h d f :: blk b7 41 (fallL (-1) (-1) 0 0).toArray :: fr) (by show Ent (_ :: _ :: blk b7 41 (fallL (-1) (-1) 0 0).toArray :: _) _; exact Ent.auto) ?_
  refine L.nil ?_
  refine At.then ?_
  refine At.seq ?_
  refine At.region ?_
  refine L.as rfl rfl ?_
  refine L.nil ?_
  refine At.then ?_
  refine At.seq ?_
  refine At.seq ?_
  refine At.region ?_
  refine L.mv rfl rfl ?_
  refine L.nil ?_
  refine At.then ?_
  refine At.block ?_
  refine At.seq ?_
  refine At.region ?_
  refine L.pure rfl (ev_eql rfl rfl rfl) ?_
  refine L.as rfl rfl ?_
  refine L.nil ?_
  refine At.then ?_
  refine At.condF rfl ?_
  refine At.seq ?_
  refine At.region ?_
  refine L.pure rfl (ev_eql rfl rfl rfl) ?_
  refine L.as rfl rfl ?_
  refine L.nil ?_
  refine At.then ?_
  refine At.condF rfl ?_
  refine At.seq ?_
  refine At.region ?_
  refine L.pure rfl (ev_eql rfl rfl rfl) ?_
  refine L.as rfl rfl ?_
  refine L.nil ?_
  refine At.then ?_
  refine At.condT rfl ?_
  refine At.region ?_
  refine L.mv rfl rfl ?_
  refine L.nc rfl rfl ?_
  refine L.fa 1 rfl rfl rfl ?_
  refine L.ld rfl rfl rfl rfl ?_
  refine L.mv rfl rfl ?_
  refine L.op rfl (o_call rfl rfl rfl hE hC (Ent.refl _) ?_)
  rintro v m ⟨c, U, J', σ', rfl, hdn, hQ', rfl⟩
  refine At.app4 ?_
  refine L.as rfl rfl ?_
  refine L.nil ?_
  refine At.inBlock (At.then ?_)
  refine At.seq ?_
  refine At.ent (l' := hostP h d f :: diskAt d σ' :: fkB f e j :: engX e p U :: jrnlAt j d J' :: blk b7 41 (fallL (-1) (-1) 0 0).toArray :: fr) Ent.auto ?_
  refine At.region ?_
  refine L.mv rfl rfl ?_
  refine L.val rfl (ev_loadN (vs := fallL (-1) (-1) 0 0) rfl rfl rfl rfl) (rowAll rfl) ?_
  refine L.op rfl (o_call rfl rfl rfl hE (hafter_does (-1) (-1) 0 0 hdn) (Ent.refl _) ?_)
  rintro v m ⟨rfl, rfl⟩
  refine At.app2 ?_
  refine L.nil ?_
  refine At.then ?_
  refine At.seq ?_
  refine At.region ?_
  refine L.mv rfl rfl ?_
  refine L.op rfl (o_call rfl rfl rfl hE (errno_does c) (Ent.refl _) ?_)
  rintro v m ⟨rfl, rfl⟩
  refine At.app0 ?_
  refine L.as rfl rfl ?_
  refine L.nil ?_
  refine At.then ?_
  refine At.ret ?_
  refine At.ret1 (hostL h f e j d p U J' σ'.rested) rfl rfl ⟨c, U, J', σ', rfl, hQ', rfl⟩ ?_
  show Ent _ (hostP h d f :: fkB f e j :: engX e p U :: jrnlAt j d J' :: diskAt d σ'.rested :: fr)
  exact Ent.auto
set_option maxRecDepth 10000 in
set_option maxHeartbeats 1000000 in
theorem hdo7_does {h f e j d n : Nat} {p : EA} {S : FK.En} {J : FK.Jn} {σ : FK.Dsk} {Q : Int → FK.En → FK.Jn → FK.Dsk → Prop} (hQ : FK.Quiet σ)
    (hC : Does Tryz.prog Good 59 [ptr f, natV n].toArray (keepL f e j d p S J σ) fun v m => ∃ c U J' σ', v = errV c ∧ σ'.down = false ∧ Q c U J' σ' ∧ m = keepL f e j d p U J' σ') : Does Tryz.prog Good 25 [ptr h, .int .i64 7, natV n, wellV].toArray (hostL h f e j d p S J σ) fun v m => ∃ c U J' σ', v = .int .i64 c ∧ Q c U J' σ' ∧ m = hostL h f e j d p U J' σ'.rested := by
  refine Does.body Tryz.func25 rfl rfl fun E fr hE => ?_
  refine At.app5 ?_
  refine At.seq ?_
  refine At.region ?_
  refine L.op rfl (o_box rfl rfl fun b7 => ?_)
  refine L.as rfl rfl ?_
  refine L.nil ?_
  refine At.then ?_
  refine At.seq ?_
  refine At.seq ?_
  refine At.region ?_
  refine L.mv rfl rfl ?_
  refine L.nc rfl rfl ?_
  refine L.fa 1 rfl rfl rfl ?_
  refine L.ld rfl rfl rfl rfl ?_
  refine L.pure rfl (ev_eqlNilP rfl rfl rfl) ?_
  refine L.nil ?_
  refine At.then ?_
  refine At.condF rfl ?_
  refine At.skip ?_
  refine At.then ?_
  refine At.seq ?_
  refine At.region ?_
  refine L.mv rfl rfl ?_
  refine L.val rfl (ev_loadN (vs := fallL (-1) (-1) 0 0) rfl rfl rfl rfl) (rowAll rfl) ?_
  refine L.op rfl (o_call rfl rfl rfl hE (hbefore_does (-1) (-1) 0 0) (Ent.sel2 (.tail .head) (.tail (.tail (.tail (.tail .head))))) ?_)
  rintro v m ⟨rfl, rfl⟩
  refine At.app2 ?_
  rw [quietE hQ]
  refine At.ent (l' := fkB f e j :: engX e p S :: jrnlAt j d J :: diskAt d σ :: hostP h d f :: blk b7 41 (fallL (-1) (-1) 0 0).toArray :: fr) (by show Ent (_ :: _ :: blk b7 41 (fallL (-1) (-1) 0 0).toArray :: _) _; exact Ent.auto) ?_
  refine L.nil ?_
  refine At.then ?_
  refine At.seq ?_
  refine At.region ?_
  refine L.as rfl rfl ?_
  refine L.nil ?_
  refine At.then ?_
  refine At.seq ?_
  refine At.seq ?_
  refine At.region ?_
  refine L.mv rfl rfl ?_
  refine L.nil ?_
  refine At.then ?_
  refine At.block ?_
  refine At.seq ?_
  refine At.region ?_
  refine L.pure rfl (ev_eql rfl rfl rfl) ?_
  refine L.as rfl rfl ?_
  refine L.nil ?_
  refine At.then ?_
  refine At.condF rfl ?_
  refine At.seq ?_
  refine At.region ?_
  refine L.pure rfl (ev_eql rfl rfl rfl) ?_
  refine L.as rfl rfl ?_
  refine L.nil ?_
  refine At.then ?_
  refine At.condF rfl ?_
  refine At.seq ?_
  refine At.region ?_
  refine L.pure rfl (ev_eql rfl rfl rfl) ?_
  refine L.as rfl rfl ?_
  refine L.nil ?_
  refine At.then ?_
  refine At.condF rfl ?_
  refine At.seq ?_
  refine At.region ?_
  refine L.pure rfl (ev_eql rfl rfl rfl) ?_
  refine L.as rfl rfl ?_
  refine L.nil ?_
  refine At.then ?_
  refine At.condF rfl ?_
  refine At.seq ?_
  refine At.region ?_
  refine L.pure rfl (ev_eql rfl rfl rfl) ?_
  refine L.as rfl rfl ?_
  refine L.nil ?_
  refine At.then ?_
  refine At.condT rfl ?_
  refine At.region ?_
  refine L.mv rfl rfl ?_
  refine L.nc rfl rfl ?_
  refine L.fa 1 rfl rfl rfl ?_
  refine L.ld rfl rfl rfl rfl ?_
  refine L.mv rfl rfl ?_
  refine L.op rfl (o_call rfl rfl rfl hE hC (Ent.refl _) ?_)
  rintro v m ⟨c, U, J', σ', rfl, hdn, hQ', rfl⟩
  refine At.app4 ?_
  refine L.as rfl rfl ?_
  refine L.nil ?_
  refine At.inBlock (At.then ?_)
  refine At.seq ?_
  refine At.ent (l' := hostP h d f :: diskAt d σ' :: fkB f e j :: engX e p U :: jrnlAt j d J' :: blk b7 41 (fallL (-1) (-1) 0 0).toArray :: fr) Ent.auto ?_
  refine At.region ?_
  refine L.mv rfl rfl ?_
  refine L.val rfl (ev_loadN (vs := fallL (-1) (-1) 0 0) rfl rfl rfl rfl) (rowAll rfl) ?_
  refine L.op rfl (o_call rfl rfl rfl hE (hafter_does (-1) (-1) 0 0 hdn) (Ent.refl _) ?_)
  rintro v m ⟨rfl, rfl⟩
  refine At.app2 ?_
  refine L.nil ?_
  refine At.then ?_
  refine At.seq ?_
  refine At.region ?_
  refine L.mv rfl rfl ?_
  refine L.op rfl (o_call rfl rfl rfl hE (errno_does c) (Ent.refl _) ?_)
  rintro v m ⟨rfl, rfl⟩
  refine At.app0 ?_
  refine L.as rfl rfl ?_
  refine L.nil ?_
  refine At.then ?_
  refine At.ret ?_
  refine At.ret1 (hostL h f e j d p U J' σ'.rested) rfl rfl ⟨c, U, J', σ', rfl, hQ', rfl⟩ ?_
  show Ent _ (hostP h d f :: fkB f e j :: engX e p U :: jrnlAt j d J' :: diskAt d σ'.rested :: fr)
  exact Ent.auto
theorem CallPost.well {f e j d : Nat} {p : EA} {S : FK.En} {J : FK.Jn} {σ : FK.Dsk} {op n : Nat} {Q : FK.En → Prop} (hQ : FK.Quiet σ) (hb : J.broken = 0) {v : Value} {m : List HP} (h : CallPost f e j d p S J σ op n Q v m) : ∃ (c : Int) (U : FK.En) (J' : FK.Jn) (σ' : FK.Dsk), v = errV c ∧ σ'.down = false ∧ (c = 0 ∧ Q U ∧ J' = J ∧ σ'.rested = noted σ J op n) ∧ m = keepL f e j d p U J' σ' := by
  unfold CallPost at h
  rw [hQ.add hb] at h
  obtain ⟨rfl, U, h1, _, rfl⟩ := h
  exact ⟨0, U, J, (noted σ J op n).spent, rfl, (show (noted σ J op n).spent.down = false from hQ.down), ⟨rfl, h1 rfl, rfl, rested3 (hQ.logs _ _)⟩, rfl⟩
theorem hcomplete_does {h f e j d t : Nat} {p : EA} {S : FK.En} {J : FK.Jn} {σ : FK.Dsk} {P : FK.Pl} (hS : FK.Ok S) (hn : t < 18446744073709551616) (hJ : J.n < 100) (hb : J.broken = 0) (hr : Roomy σ) (hQ : FK.Quiet σ) (ht : (S.tasks.find? (·.1 == t)).map (·.2) = some P) (hends : S.ends < 9223372036854775807) : Does Tryz.prog Good 25 [ptr h, .int .i64 4, natV t, wellV].toArray (hostL h f e j d p S J σ) fun v m => v = .int .i64 0 ∧ m = hostL h f e j d p (S.complete t) J (noted σ J 4 t) := by
  refine (hdo4_does (Q := fun c U J' σ' => c = 0 ∧ U = S.complete t ∧ J' = J ∧ σ'.rested = noted σ J 4 t) hQ ((fcomplete1_does hS hn hJ hr ht hends).mono fun v m hv => ⟨m, hv.well hQ hb, Ent.refl _⟩)).mono ?_
  rintro v m ⟨c, U, J', σ', rfl, ⟨rfl, rfl, rfl, h4⟩, rfl⟩
  refine ⟨_, ⟨rfl, rfl⟩, ?_⟩
  rw [h4]
  exact Ent.refl _
theorem hfail_does {h f e j d t : Nat} {p : EA} {S : FK.En} {J : FK.Jn} {σ : FK.Dsk} {P : FK.Pl} (hS : FK.Ok S) (hn : t < 18446744073709551616) (hJ : J.n < 100) (hb : J.broken = 0) (hr : Roomy σ) (hQ : FK.Quiet σ) (ht : (S.tasks.find? (·.1 == t)).map (·.2) = some P) (hsets : S.sets + 1 < 9223372036854775807) (hends : S.ends < 9223372036854775807) : Does Tryz.prog Good 25 [ptr h, .int .i64 5, natV t, wellV].toArray (hostL h f e j d p S J σ) fun v m => v = .int .i64 0 ∧ m = hostL h f e j d p (S.fail t) J (noted σ J 5 t) := by
  refine (hdo5_does (Q := fun c U J' σ' => c = 0 ∧ U = S.fail t ∧ J' = J ∧ σ'.rested = noted σ J 5 t) hQ ((ffail1_does hS hn hJ hr ht hsets hends).mono fun v m hv => ⟨m, hv.well hQ hb, Ent.refl _⟩)).mono ?_
  rintro v m ⟨c, U, J', σ', rfl, ⟨rfl, rfl, rfl, h4⟩, rfl⟩
  refine ⟨_, ⟨rfl, rfl⟩, ?_⟩
  rw [h4]
  exact Ent.refl _
theorem htick_does {h f e j d n : Nat} {p : EA} {S : FK.En} {J : FK.Jn} {σ : FK.Dsk} (hS : FK.Ok S) (hn : n < 18446744073709551616) (hJ : J.n < 100) (hb : J.broken = 0) (hr : Roomy σ) (hQ : FK.Quiet σ) (hsets : S.sets ≤ 4611686018427387904) (hends : S.ends ≤ 4611686018427387904) : Does Tryz.prog Good 25 [ptr h, .int .i64 7, natV n, wellV].toArray (hostL h f e j d p S J σ) fun v m => v = .int .i64 0 ∧ ∃ U, FK.Ticks (S.later n) S U ∧ m = hostL h f e j d p U J (noted σ J 7 n) := by
  refine (hdo7_does (Q := fun c U J' σ' => c = 0 ∧ FK.Ticks (S.later n) S U ∧ J' = J ∧ σ'.rested = noted σ J 7 n) hQ ((ftick_does hS hn hJ hr hsets hends).mono fun v m hv => ⟨m, hv.well hQ hb, Ent.refl _⟩)).mono ?_
  rintro v m ⟨c, U, J', σ', rfl, ⟨rfl, h2, rfl, h4⟩, rfl⟩
  refine ⟨_, ⟨rfl, U, h2, rfl⟩, ?_⟩
  rw [h4]
  exact Ent.refl _
set_option maxRecDepth 10000 in
theorem hqueue_does {h f e j d : Nat} {p : EA} {S : FK.En} {J : FK.Jn} {σ : FK.Dsk} (hS : FK.Ok S) : Does Tryz.prog Good 22 [ptr h].toArray (hostL h f e j d p S J σ) fun v m => m = row 55 4 v S.queue.length (qV S S.queue) :: hostL h f e j d p S J σ := by
  refine Does.body Tryz.func22 rfl rfl fun E fr hE => ?_
  refine At.app5 ?_
  refine At.seq ?_
  refine At.region ?_
  refine L.as rfl rfl ?_
  refine L.nil ?_
  refine At.then ?_
  refine At.seq ?_
  refine At.seq ?_
  refine At.region ?_
  refine L.mv rfl rfl ?_
  refine L.nc rfl rfl ?_
  refine L.fa 1 rfl rfl rfl ?_
  refine L.ld rfl rfl rfl rfl ?_
  refine L.pure rfl (ev_eqlNilP rfl rfl rfl) ?_
  refine L.nil ?_
  refine At.then ?_
  refine At.condF rfl ?_
  refine At.skip ?_
  refine At.then ?_
  refine At.seq ?_
  refine At.region ?_
  refine L.mv rfl rfl ?_
  refine L.nc rfl rfl ?_
  refine L.fa 1 rfl rfl rfl ?_
  refine L.ld rfl rfl rfl rfl ?_
  refine L.op rfl (o_call rfl rfl rfl hE (fqueue_does hS) (Ent.trans (Ent.sel (.tail .head)) (Ent.cons (Ent.sel3 (.tail .head) (.tail .head) (.tail .head)))) ?_)
  rintro v m rfl
  refine At.app5 ?_
  refine L.as rfl rfl ?_
  refine L.nil ?_
  refine At.then ?_
  refine At.ret ?_
  refine At.ret1 (row 55 4 v S.queue.length (qV S S.queue) :: hostL h f e j d p S J σ) rfl rfl rfl ?_
  show Ent _ (_ :: hostP h d f :: fkB f e j :: engX e p S :: jrnlAt j d J :: diskAt d σ :: fr)
  exact Ent.auto
set_option maxRecDepth 10000 in
set_option maxHeartbeats 1000000 in
theorem hquery1_does {h f e j d : Nat} {p : EA} {S : FK.En} {J : FK.Jn} {σ : FK.Dsk} {id : Nat} {R : FK.Rn} (hS : FK.Ok S) (hR : S.getR id = some R) : Does Tryz.prog Good 26 [ptr h, natV id].toArray (hostL h f e j d p S J σ) fun v m => ∃ A2 c2 A3 c3, v = .tuple #[.agg (infoL id R.state (.slice A2 R.steps.length c2) (.slice A3 R.steps.length c3)).toArray, .int .i64 0] ∧ m = intsAt (.slice A2 R.steps.length c2) (R.steps.map (·.state)) :: intsAt (.slice A3 R.steps.length c3) (R.steps.map (·.tries)) :: hostL h f e j d p S J σ := by
  refine Does.body Tryz.func26 rfl rfl fun E fr hE => ?_
  refine At.app5 ?_
  refine At.seq ?_
  refine At.region ?_
  refine L.op rfl (o_alloc (z := .agg #[.int .u64 0, .int .i64 0, .slice none 0 0, .slice none 0 0]) rfl rfl fun b4 => ?_)
  refine L.as rfl rfl ?_
  refine L.nil ?_
  refine At.then ?_
  refine At.seq ?_
  refine At.seq ?_
  refine At.region ?_
  refine L.mv rfl rfl ?_
  refine L.nc rfl rfl ?_
  refine L.fa 1 rfl rfl rfl ?_
  refine L.ld rfl rfl rfl rfl ?_
  refine L.pure rfl (ev_eqlNilP rfl rfl rfl) ?_
  refine L.nil ?_
  refine At.then ?_
  refine At.condF rfl ?_
  refine At.skip ?_
  refine At.then ?_
  refine At.seq ?_
  refine At.ent (l' := fkB f e j :: engX e p S :: jrnlAt j d J :: diskAt d σ :: hostP h d f :: blk b4 62 (infoL 0 0 (.slice none 0 0) (.slice none 0 0)).toArray :: fr) (by show Ent (blk b4 62 (infoL 0 0 (.slice none 0 0) (.slice none 0 0)).toArray :: _) _; exact Ent.auto) ?_
  refine At.region ?_
  refine L.mv rfl rfl ?_
  refine L.nc rfl rfl ?_
  refine L.fa 1 rfl rfl rfl ?_
  refine L.ld rfl rfl rfl rfl ?_
  refine L.mv rfl rfl ?_
  refine L.op rfl (o_call rfl rfl rfl hE (fquery1_does hS hR) (Ent.refl _) ?_)
  rintro v m ⟨A2, c2, A3, c3, rfl, rfl⟩
  refine At.app6 ?_
  refine L.mv rfl rfl ?_
  refine L.ex rfl rfl rfl ?_
  refine L.ex rfl rfl rfl ?_
  refine L.op rfl (o_alloc (z := .agg #[.int .u64 0, .int .i64 0, .slice none 0 0, .slice none 0 0]) rfl rfl fun b6 => ?_)
  refine L.op rfl (o_storeN rfl (m := 4) (vs := infoL id R.state (.slice A2 R.steps.length c2) (.slice A3 R.steps.length c3)) rfl rfl rfl rfl (by simp [Value.oneCell']) (by show 0 + 4 ≤ 4; omega) ?_)
  refine At.blkAs b6 (infoL id R.state (.slice A2 R.steps.length c2) (.slice A3 R.steps.length c3)).toArray rfl ?_
  refine L.as rfl rfl ?_
  refine L.nil ?_
  refine At.then ?_
  refine At.seq ?_
  refine Dr.start rfl ?_
  refine Dr.ld 0 rfl rfl (by kernel_rfl) (ev_loadN (vs := infoL id R.state (.slice A2 R.steps.length c2) (.slice A3 R.steps.length c3)) rfl rfl rfl rfl) (rowAll rfl) ?_
  refine Dr.p 1 rfl rfl (by kernel_rfl) (ev_move rfl) ?_
  refine Dr.run 2 rfl rfl (by kernel_rfl) (o_call rfl rfl rfl hE number_nil (Ent.refl _) ?_)
  rintro v m ⟨rfl, rfl⟩
  refine At.app0 ?_
  refine Dr.kept [true] (by kernel_rfl) (Kept.cons (rowAll rfl) Kept.nil) ?_
  refine Dr.run 3 rfl rfl (by kernel_rfl) (o_storeN rfl (m := 4) (vs := infoL id R.state (.slice A2 R.steps.length c2) (.slice A3 R.steps.length c3)) rfl rfl rfl rfl (by simp [Value.oneCell']) (by show 0 + 4 ≤ 4; omega) ?_)
  refine Dr.kept [false] (by kernel_rfl) Kept.nil ?_
  refine Dr.p 4 rfl rfl (by kernel_rfl) (ev_assign rfl) ?_
  refine Dr.done (by kernel_rfl) ?_
  refine At.then ?_
  refine At.ret ?_
  refine At.blkAs b4 (infoL id R.state (.slice A2 R.steps.length c2) (.slice A3 R.steps.length c3)).toArray rfl ?_
  refine At.res2 (intsAt (.slice A2 R.steps.length c2) (R.steps.map (·.state)) :: intsAt (.slice A3 R.steps.length c3) (R.steps.map (·.tries)) :: hostL h f e j d p S J σ) rfl (Res.cellN (vs := infoL id R.state (.slice A2 R.steps.length c2) (.slice A3 R.steps.length c3)) rfl rfl rfl rfl (rowAll rfl)) (Res.tmp rfl) ⟨A2, c2, A3, c3, rfl, rfl⟩ ?_
  show Ent _ (intsAt _ _ :: intsAt _ _ :: hostP h d f :: fkB f e j :: engX e p S :: jrnlAt j d J :: diskAt d σ :: fr)
  exact Ent.auto
end Go.Proofs.YtmeegfamopaljaaGreatDoor

namespace Go.Proofs.YtmeegfamopaljaaGreatDoor
open Go Go.RowKit Go.Deep
def ErrAt (w : World) (base : Nat) (v : Value) (p : Int × Int) : Prop :=
  (p.1 = 0 ∧ v = .nilIface) ∨ (p.1 ≠ 0 ∧ ∃ b, v = .iface 159 (.pointer (some ⟨b, 0, none⟩)) ∧ base ≤ b ∧ Blk w b 164 #[.int .i64 p.1, .int .i64 p.2])
theorem ErrAt.made {w : World} {base : Nat} {p : Int × Int} (hp : p.1 ≠ 0) (hb : base ≤ w.heap.size) :
    ErrAt (w.alloc (.cells #[.int .i64 p.1, .int .i64 p.2] 164)) base (.iface 159 (.pointer (some ⟨w.heap.size, 0, none⟩))) p :=
  .inr ⟨hp, _, rfl, hb, Blk.made _ _ _⟩
theorem ErrAt.keep {w w' : World} {base : Nat} {v : Value} {p : Int × Int} (h : ErrAt w base v p) (hs : ∀ b, base ≤ b → b < w.heap.size → w'.heap[b]? = w.heap[b]?) : ErrAt w' base v p := by
  rcases h with h | ⟨hp, b, hv, hb, hk⟩
  · exact .inl h
  · exact .inr ⟨hp, b, hv, hb, (hs b hb hk.lt).trans hk⟩
set_option maxHeartbeats 400000 in
theorem span_yes (n low : Int) (w : World) (h1 : low ≤ n) (h2 : n ≤ 1048576) :
    Calls Tryz.prog 138 #[.int .i64 n, .int .i64 low] w fun e w' => e = .returned (.bool true) ∧ w = w' := by
  go_enter Tryz.func138, Tryz.ntmps138
  go_wp2
  go_ret
  exact ⟨rfl, rfl⟩
set_option maxHeartbeats 400000 in
theorem span_no (n low : Int) (w : World) (h : n < low ∨ 1048576 < n) :
    Calls Tryz.prog 138 #[.int .i64 n, .int .i64 low] w fun e w' => e = .returned (.bool false) ∧ w = w' := by
  by_cases hl : low ≤ n
  · have h2 : decide (n ≤ 1048576) = false := by simp; omega
    clear h
    go_enter Tryz.func138, Tryz.ntmps138
    go_wp2
    go_ret
    exact ⟨rfl, rfl⟩
  · have h2 : n < low := by omega
    clear h
    go_enter Tryz.func138, Tryz.ntmps138
    go_wp2
    go_ret
    exact ⟨rfl, rfl⟩
set_option maxHeartbeats 400000 in
theorem fault_calls (e a : Int) (w : World) :
    Calls Tryz.prog 137 #[.int .i64 e, .int .i64 a] w fun en w' => en = .returned (.iface 159 (.pointer (some ⟨w.heap.size, 0, none⟩))) ∧ w.alloc (.cells #[.int .i64 e, .int .i64 a] 164) = w' := by
  go_enter Tryz.func137, Tryz.ntmps137
  go_wp2
  go_ret
  exact ⟨rfl, rfl⟩
set_option maxHeartbeats 400000 in
theorem noop_calls (k : Int) (w : World) :
    Calls Tryz.prog 140 #[.int .i64 k] w fun en w' => en = .returned (.tuple #[]) ∧ w = w' := by
  go_enter Tryz.func140, Tryz.ntmps140
  go_wp2
  go_end0
  exact ⟨rfl, rfl⟩
theorem not_nodeOk {n : FK.Node} (h : ¬ FK.NodeOk n) :
    n.budget < 1 ∨ (1 ≤ n.budget ∧ 5 < n.budget) ∨ ((1 ≤ n.budget ∧ n.budget ≤ 5) ∧ (n.close < 1 ∨ 1048576 < n.close)) ∨
    ((1 ≤ n.budget ∧ n.budget ≤ 5) ∧ (1 ≤ n.close ∧ n.close ≤ 1048576) ∧ (n.beat < 0 ∨ 1048576 < n.beat)) ∨
    ((1 ≤ n.budget ∧ n.budget ≤ 5) ∧ (1 ≤ n.close ∧ n.close ≤ 1048576) ∧ (0 ≤ n.beat ∧ n.beat ≤ 1048576) ∧ (n.base < 1 ∨ 1048576 < n.base)) ∨
    ((1 ≤ n.budget ∧ n.budget ≤ 5) ∧ (1 ≤ n.close ∧ n.close ≤ 1048576) ∧ (0 ≤ n.beat ∧ n.beat ≤ 1048576) ∧ (1 ≤ n.base ∧ n.base ≤ 1048576) ∧ (n.cap < n.base ∨ 1048576 < n.cap)) ∨
    ((1 ≤ n.budget ∧ n.budget ≤ 5) ∧ (1 ≤ n.close ∧ n.close ≤ 1048576) ∧ (0 ≤ n.beat ∧ n.beat ≤ 1048576) ∧ (1 ≤ n.base ∧ n.base ≤ 1048576) ∧ (n.base ≤ n.cap ∧ n.cap ≤ 1048576) ∧ (n.jitter < 0 ∨ 1048576 < n.jitter)) := by
  unfold FK.NodeOk FK.span at h
  omega
def CheckPost (w : World) (p : Int × Int) (e : Ending) (w' : World) : Prop := ∃ v, e = .returned v ∧ ErrAt w' w.heap.size v p ∧ Below w.heap.size w w'
theorem CheckPost.fault {w w' : World} {p : Int × Int} {b : Nat} (hp : p.1 ≠ 0) (hb : Below w.heap.size w w') (he : w'.heap.size = b) :
    CheckPost w p (.returned (.iface 159 (.pointer (some ⟨b, 0, none⟩)))) (w'.alloc (.cells #[.int .i64 p.1, .int .i64 p.2] 164)) :=
  ⟨_, rfl, by subst he; exact .made hp hb.size, hb.alloc hb.size _⟩
set_option maxRecDepth 100000 in
set_option maxHeartbeats 1000000 in
theorem check_head (w : World) (A : Option Addr) (c : Nat) (f : FK.Flow) (hh : ¬ FK.HeadOk f) : Calls Tryz.prog 89 #[.agg #[.int .i64 f.deadline, .slice A f.nodes.length c]] w (CheckPost w (FK.chk f)) := by
  have HR := Lib.hid (FK.Checked.head hh).chk
  have hcases : (f.deadline < 1 ∨ 1048576 < f.deadline) ∨ ((1 ≤ f.deadline ∧ f.deadline ≤ 1048576) ∧ f.nodes.length = 0) ∨ ((1 ≤ f.deadline ∧ f.deadline ≤ 1048576) ∧ 12 < f.nodes.length) := by
    unfold FK.HeadOk FK.span at hh; omega
  clear hh
  rw [HR.out]
  rcases hcases with h | ⟨⟨h1, h2⟩, h3⟩ | ⟨⟨h1, h2⟩, h3⟩
  · go_enter Tryz.func89, Tryz.ntmps89
    go_wp2_with (first
      | (go_at_call 138; refine (span_no _ _ _ (by omega)).mono ?_; rintro e w2 ⟨rfl, rfl⟩)
      | (go_at_call 137; refine (fault_calls _ _ _).mono ?_; rintro e w2 ⟨rfl, rfl⟩))
    go_ret
    refine CheckPost.fault (w := w) (p := (2, -1)) (by decide) ?_ (by simp)
    exact (by repeat (first | assumption | exact Below.refl _ _ | refine below_drewN ?_ _ | refine Below.drew ?_ | refine Below.alloc ?_ (by first | omega | (simp; done) | (simp; omega)) _ | refine Below.setCell ?_ (by first | omega | (simp; done) | (simp; omega)) _))
  · have h3' : ((f.nodes.length : Int) == 0) = true := by simp [h3]
    have H3 := Lib.hid h3
    clear h3
    go_enter Tryz.func89, Tryz.ntmps89
    go_wp2_with (first
      | (go_at_call 138; refine (span_yes _ _ _ (by omega) (by omega)).mono ?_; rintro e w2 ⟨rfl, rfl⟩)
      | (go_at_call 137; refine (fault_calls _ _ _).mono ?_; rintro e w2 ⟨rfl, rfl⟩))
    go_ret
    refine CheckPost.fault (w := w) (p := (2, -1)) (by decide) ?_ (by simp)
    exact (by repeat (first | assumption | exact Below.refl _ _ | refine below_drewN ?_ _ | refine Below.drew ?_ | refine Below.alloc ?_ (by first | omega | (simp; done) | (simp; omega)) _ | refine Below.setCell ?_ (by first | omega | (simp; done) | (simp; omega)) _))
  · have h3' : ((f.nodes.length : Int) == 0) = false := by rw [beq_eq_false_iff_ne]; omega
    go_enter Tryz.func89, Tryz.ntmps89
    go_wp2_with (first
      | (go_at_call 138; refine (span_yes _ _ _ (by omega) (by omega)).mono ?_; rintro e w2 ⟨rfl, rfl⟩)
      | (go_at_call 137; refine (fault_calls _ _ _).mono ?_; rintro e w2 ⟨rfl, rfl⟩))
    go_ret
    refine CheckPost.fault (w := w) (p := (2, -1)) (by decide) ?_ (by simp)
    exact (by repeat (first | assumption | exact Below.refl _ _ | refine below_drewN ?_ _ | refine Below.drew ?_ | refine Below.alloc ?_ (by first | omega | (simp; done) | (simp; omega)) _ | refine Below.setCell ?_ (by first | omega | (simp; done) | (simp; omega)) _))
end Go.Proofs.YtmeegfamopaljaaGreatDoor

namespace Go.Proofs.YtmeegfamopaljaaGreatDoor
open Go Go.RowKit Go.Deep
theorem Tab.lt {w : World} (h : Tab w) : 2 < w.heap.size := by
  have h0 := h 0 (by decide)
  rcases Nat.lt_or_ge 2 w.heap.size with hlt | hge
  · exact hlt
  · unfold World.cell? at h0
    simp [Array.getElem?_eq_none hge] at h0
theorem Tab.below {w w' : World} (h : Tab w) (hb : Below w.heap.size w w') : Tab w' := h.keep hb.to_same h.lt
theorem edges_drop {len m : Nat} {p : Int} {l : List Int} (hm : m < l.length) : FK.EdgesOk len p (l.drop m) ↔ (p < l[m] ∧ l[m] < len ∧ FK.EdgesOk len l[m] (l.drop (m + 1))) := by
  rw [List.drop_eq_getElem_cons hm]; rfl
def EdgeRel (len : Nat) (l : List Int) (m : Nat) (last : Int) : Prop := FK.EdgesOk len (-1) l ↔ FK.EdgesOk len last (l.drop m)
set_option maxRecDepth 100000 in
set_option maxHeartbeats 4000000 in
theorem check_body (w : World) (B : Nat) (A : Option Addr) (c : Nat) (f : FK.Flow) (hB : B ≤ w.heap.size) (hN : NodesAt w B A c f.nodes) (hT : Tab w)
    (hh : FK.HeadOk f) : Calls Tryz.prog 89 #[.agg #[.int .i64 f.deadline, .slice A f.nodes.length c]] w (CheckPost w (FK.chk f)) := by
  have hhead := hh
  obtain ⟨⟨d1, d2⟩, l1, l2⟩ := hhead
  have HN := Lib.hid hN
  have HT := Lib.hid hT
  have HH := Lib.hid hh
  have g1 := hN.len
  have g2 := hN.cap
  clear hT hh hN
  have hz : ((f.nodes.length : Int) == 0) = false := by rw [beq_eq_false_iff_ne]; omega
  have hent : ∀ (args : Array Value) (W : World), (callFunc 140 args).run Tryz.prog W = .ok (.enter 140 args) W := fun args W => by kernel_rfl
  have HENT := Lib.hid hent
  clear hent
  go_enter Tryz.func89, Tryz.ntmps89
  go_wp2_with (go_at_call 138; refine (span_yes _ _ _ (by omega) (by omega)).mono ?_; rintro e w2 ⟨rfl, rfl⟩)
  go_loopw [33] (fun i wr => ∃ k : Nat, k ≤ f.nodes.length ∧ i = .int .i64 k ∧ FK.OkTo f k ∧ Below w.heap.size w wr ∧ w.heap.size < wr.heap.size ∧ wr.cell? ⟨w.heap.size, 1, none⟩ = some (.slice A f.nodes.length c)) (fun i _ => f.nodes.length - (intOf i).toNat)
  case atStart => exact ⟨0, by omega, rfl, fun j n hj => by omega, (by repeat (first | assumption | exact Below.refl _ _ | refine below_drewN ?_ _ | refine Below.drew ?_ | refine Below.alloc ?_ (by first | omega | (simp; done) | (simp; omega)) _ | refine Below.setCell ?_ (by first | omega | (simp; done) | (simp; omega)) _)), by simp, by go_simp⟩
  case round =>
    obtain ⟨k, hk, rfl, hok, hb, hsz, hcf⟩ := hrel
    by_cases hlt : k < f.nodes.length
    · obtain ⟨b, off, rfl, hbB, hcell⟩ := HN.out.cells (by omega)
      have hkn : f.nodes[k]? = some f.nodes[k] := by simp [hlt]
      obtain ⟨n, hn⟩ : ∃ n, n = f.nodes[k] := ⟨_, rfl⟩
      rw [← hn] at hkn
      clear hn
      have hnode := (hcell k n hkn).keep (hb.to_same.mono hB) hbB
      obtain ⟨c0, c1, c2, c3, c4, c5, ⟨A6, n6, c6, hi⟩, hr⟩ := hnode
      have HI6 := Lib.hid hi
      have HKN := Lib.hid hkn
      have HOK := Lib.hid hok
      have HB := Lib.hid hb
      clear hcell hr hi hkn hok hb
      by_cases hno : FK.NodeOk n
      · have HNO := Lib.hid hno
        obtain ⟨a1, a2, ⟨a3, a4⟩, ⟨a5, a6⟩, ⟨a7, a8⟩, ⟨a9, a10⟩, a11, a12⟩ := hno
        have hal := HI6.out.len
        have hac := HI6.out.cap
        go_wp2_with (go_at_call 138; refine (span_yes _ _ _ (by omega) (by omega)).mono ?_; rintro e w2 ⟨rfl, rfl⟩)
        go_loop [7, 89] (fun s t => ∃ (m : Nat) (last : Int), m ≤ n.after.length ∧ t = .int .i64 m ∧ s = .int .i64 last ∧ -1 ≤ last ∧ last < f.nodes.length ∧ EdgeRel f.nodes.length n.after m last) (fun _ t => n.after.length - (intOf t).toNat)
        case atStart => exact ⟨0, -1, by omega, rfl, rfl, by omega, by omega, by simp [EdgeRel]⟩
        case round =>
          obtain ⟨m, last, hm, rfl, rfl, hl0, hl1, her⟩ := hrel
          have HER := Lib.hid her
          clear her
          by_cases hmlt : m < n.after.length
          · obtain ⟨b6, o6, hA6, hb6, hc6⟩ := HI6.out.cells (by omega)
            have hxm := hc6 m n.after[m] (by simp [hmlt])
            have hxr := HI6.out.rng n.after[m] (List.getElem_mem _)
            obtain ⟨x, hx⟩ : ∃ x, x = n.after[m] := ⟨_, rfl⟩
            rw [← hx] at hxm hxr
            have HD := Lib.hid (edges_drop (len := f.nodes.length) (p := last) hmlt)
            rw [← hx] at HD
            obtain ⟨hr1, hr2⟩ := hxr
            have hb6lt : b6 < wr.heap.size := by omega
            subst hA6
            clear hc6 hx
            by_cases h1 : x ≤ last
            · have hbad : ¬ FK.EdgesOk f.nodes.length (-1) n.after := fun he => by have := (HD.out.1 (HER.out.1 he)).1; omega
              have HR := Lib.hid (FK.Checked.edge k n HH.out HOK.out HKN.out HNO.out hbad).chk
              clear hbad
              go_wp2_with (go_at_call 137; refine (fault_calls _ _ _).mono ?_; rintro e w2 ⟨rfl, rfl⟩)
              go_ret
              rw [HR.out]
              refine CheckPost.fault (w := w) (p := (3, (k : Int))) (by simp) ?_ (by simp)
              exact (by repeat (first | exact HB.out | refine below_drewN ?_ _ | refine Below.drew ?_ | refine Below.alloc ?_ (by first | omega | (simp; done) | (simp; omega)) _ | refine Below.setCell ?_ (by first | omega | (simp; done) | (simp; omega)) _))
            · by_cases h2 : (f.nodes.length : Int) ≤ x
              · have hbad : ¬ FK.EdgesOk f.nodes.length (-1) n.after := fun he => by have := (HD.out.1 (HER.out.1 he)).2.1; omega
                have HR := Lib.hid (FK.Checked.edge k n HH.out HOK.out HKN.out HNO.out hbad).chk
                clear hbad
                go_wp2_with (go_at_call 137; refine (fault_calls _ _ _).mono ?_; rintro e w2 ⟨rfl, rfl⟩)
                go_ret
                rw [HR.out]
                refine CheckPost.fault (w := w) (p := (3, (k : Int))) (by simp) ?_ (by simp)
                exact (by repeat (first | exact HB.out | refine below_drewN ?_ _ | refine Below.drew ?_ | refine Below.alloc ?_ (by first | omega | (simp; done) | (simp; omega)) _ | refine Below.setCell ?_ (by first | omega | (simp; done) | (simp; omega)) _))
              · go_wp2
                go_round
                case rel => exact ⟨m + 1, x, by omega, by go_num, rfl, by omega, by omega, HER.out.trans (HD.out.trans ⟨fun h => h.2.2, fun h => ⟨by omega, by omega, h⟩⟩)⟩
                case measure => simp [intOf]; omega
          · have hedges : FK.EdgesOk f.nodes.length (-1) n.after := HER.out.2 (by rw [List.drop_of_length_le (by omega)]; trivial)
            have hnext : FK.OkTo f (k + 1) := fun j n' hj hn' => by
              rcases Nat.lt_or_ge j k with h | h
              · exact HOK.out j n' h hn'
              · obtain rfl : j = k := by omega
                have := HKN.out
                rw [hn'] at this
                cases this
                exact ⟨HNO.out, hedges⟩
            have HNEXT := Lib.hid hnext
            clear hnext hedges
            go_wp2
            go_roundw
            case rel => exact ⟨k + 1, by omega, by go_num, HNEXT.out, (by repeat (first | exact HB.out | refine below_drewN ?_ _ | refine Below.drew ?_ | refine Below.alloc ?_ (by first | omega | (simp; done) | (simp; omega)) _ | refine Below.setCell ?_ (by first | omega | (simp; done) | (simp; omega)) _)), by simp; omega, by go_simp⟩
            case measure => simp [intOf]; omega
      · have HR := Lib.hid (FK.Checked.bound k n HH.out HOK.out HKN.out hno).chk
        have hways := not_nodeOk hno
        clear hno
        rcases hways with h | ⟨h0, h⟩ | ⟨h0, h⟩ | ⟨h0, h2, h⟩ | ⟨h0, h2, h3, h⟩ | ⟨h0, h2, h3, h4, h⟩ | ⟨h0, h2, h3, h4, h5, h⟩
        all_goals
          go_wp2_with (first
            | (go_at_call 138; refine (span_yes _ _ _ (by omega) (by omega)).mono ?_; rintro e w2 ⟨rfl, rfl⟩)
            | (go_at_call 138; refine (span_no _ _ _ (by omega)).mono ?_; rintro e w2 ⟨rfl, rfl⟩)
            | (go_at_call 137; refine (fault_calls _ _ _).mono ?_; rintro e w2 ⟨rfl, rfl⟩))
          go_ret
          rw [HR.out]
          refine CheckPost.fault (w := w) (p := (2, (k : Int))) (by simp) ?_ (by simp)
          exact (by repeat (first | exact HB.out | refine below_drewN ?_ _ | refine Below.drew ?_ | refine Below.alloc ?_ (by first | omega | (simp; done) | (simp; omega)) _ | refine Below.setCell ?_ (by first | omega | (simp; done) | (simp; omega)) _))
    · obtain rfl : k = f.nodes.length := by omega
      have HOK := Lib.hid hok
      have HB := Lib.hid hb
      have hgt := HT.out.lt
      have hv := hok.aft_lt
      have hpos : ∀ n ∈ f.nodes, ∀ x ∈ n.after, 0 ≤ x := fun n hn x hx => by
        obtain ⟨i, hi, rfl⟩ := List.mem_iff_getElem.1 hn
        have := (hok i f.nodes[i] hi (by simp [hi])).2.bounds x hx
        omega
      have HORD := Lib.hid (flow_Order_calls wr B A c f.nodes 140 #[] (fun W _ => Below wr.heap.size wr W) (by omega) l2 hv hpos HENT.out (Below.refl _ _)
        (fun W T h => ⟨(HN.out.keep (hb.to_same.mono hB)).keep (h.to_same.mono (by omega)), (HT.out.below hb).below h, h.size⟩)
        (fun W W' T h h' => h.trans h')
        (fun W T k h _ _ _ => (noop_calls k W).mono fun e W' ⟨he, hw⟩ => by subst hw; exact ⟨he, h, Nat.le_refl _, fun _ _ _ => rfl⟩))
      clear hok hb hv hpos
      go_wp2_with (fail)
      refine HORD.out.mono ?_
      rintro e w2 ⟨left, T, rfl, hi2, ho2, hst2⟩
      have hstuck := ho2.stuck (HOK.out.aft_lt) hst2
      have hl4 := ordering_lt ho2 l2
      have HB2 := Lib.hid (HB.out.trans (hi2.mono HB.out.size))
      have HT2 := Lib.hid ((HT.out.below HB.out).below hi2)
      clear hi2 ho2 hst2
      by_cases hl0 : left = 0
      · have HR := Lib.hid (FK.Checked.ok HH.out HOK.out fun i hi => Classical.byContradiction fun hn => by
          have := (hstuck i).2 ⟨hi, hn⟩
          rw [hl0] at this; simp at this).chk
        have hne : ((left : Int) != 0) = false := by rw [hl0]; rfl
        clear hstuck hl0
        go_wp2
        go_ret
        rw [HR.out]
        exact ⟨_, rfl, .inl ⟨rfl, rfl⟩, HB2.out⟩
      · obtain ⟨t1, t2, t3⟩ := ctz_low left (by omega) hl0
        have HTZ := Lib.hid (tz_calls left (by omega) hl0 w2 HT2.out)
        have hne : ((left : Int) != 0) = true := by rw [bne_iff_ne]; omega
        generalize Lib.ctz 64 left = t at HTZ t1 t2 t3
        have ht := (hstuck t).1 t1
        have HR := Lib.hid (FK.Checked.cycle t HH.out HOK.out ht.1 ht.2 fun j hj => Classical.byContradiction fun hn => by
          have := (hstuck j).2 ⟨by omega, hn⟩
          rw [t2 j hj] at this; cases this).chk
        clear hstuck hl0 t1 t2 ht
        go_wp2_with (first
          | (go_at_call 141; refine HTZ.out.mono ?_; rintro e w3 ⟨rfl, rfl⟩)
          | (go_at_call 137; refine (fault_calls _ _ _).mono ?_; rintro e w3 ⟨rfl, rfl⟩))
        go_ret
        rw [HR.out]
        refine CheckPost.fault (w := w) (p := (4, (t : Int))) (by simp) ?_ (by simp)
        exact (by repeat (first | exact HB2.out | refine below_drewN ?_ _ | refine Below.drew ?_ | refine Below.alloc ?_ (by first | omega | (simp; done) | (simp; omega)) _ | refine Below.setCell ?_ (by first | omega | (simp; done) | (simp; omega)) _))
theorem flow_Check_calls (w : World) (B : Nat) (A : Option Addr) (c : Nat) (f : FK.Flow) (hB : B ≤ w.heap.size) (hN : NodesAt w B A c f.nodes) (hT : Tab w) :
    Calls Tryz.prog 89 #[.agg #[.int .i64 f.deadline, .slice A f.nodes.length c]] w (CheckPost w (FK.chk f)) := by
  by_cases hh : FK.HeadOk f
  · exact check_body w B A c f hB hN hT hh
  · exact check_head w A c f hh
end Go.Proofs.YtmeegfamopaljaaGreatDoor

namespace Go.SL
open Go Go.RowKit
theorem Holds.fresh {E : Env} {w w' : World} {l : List HP} {b : Nat} {o : Obj} (h : Holds E w l) (hb : Below w.heap.size w w') (hge : w.heap.size ≤ b) (ho : w'.heap[b]? = some o) : Holds E w' (SL.ob b o :: l) := by
  refine ⟨h.is.below hb, fun k => k = b, E.free w, fun k hk => ?_, fun k hk => ⟨Nat.lt_of_lt_of_le hk.1 hb.size, hk.2⟩, fun k hk hk' => ?_, ⟨rfl, ho⟩, h.star.loc (fun _ h => h) fun k hk => hb.block k hk.1⟩
  · subst hk
    refine ⟨(Array.getElem?_eq_some_iff.1 ho).1, fun p hp e => ?_⟩
    have := h.is.lt hp
    omega
  · have := hk'.1
    omega
end Go.SL
namespace Go.Proofs.YtmeegfamopaljaaGreatDoor
open Go Go.RowKit Go.SL
def ErrPost (p : Int × Int) (v : Value) (m : List HP) : Prop := (p.1 = 0 ∧ v = .nilIface ∧ m = []) ∨ (p.1 ≠ 0 ∧ ∃ b, v = .iface 159 (.pointer (some ⟨b, 0, none⟩)) ∧ m = [blk b 164 #[.int .i64 p.1, .int .i64 p.2]])
theorem ErrPost.ok {p : Int × Int} {v : Value} {m : List HP} (h : ErrPost p v m) (h0 : p.1 = 0) : v = .nilIface ∧ m = [] := by
  rcases h with ⟨_, h⟩ | ⟨h, _⟩
  · exact h
  · exact absurd h0 h
theorem ErrPost.bad {p : Int × Int} {v : Value} {m : List HP} (h : ErrPost p v m) (h0 : p.1 ≠ 0) : ∃ b, v = .iface 159 (.pointer (some ⟨b, 0, none⟩)) ∧ m = [blk b 164 #[.int .i64 p.1, .int .i64 p.2]] := by
  rcases h with ⟨h, _⟩ | ⟨_, h⟩
  · exact absurd h h0
  · exact h
theorem check_gives (f : FK.Flow) (A : Option Addr) (c : Nat) : Gives Tryz.prog Good 89 [.agg #[.int .i64 f.deadline, .slice A f.nodes.length c]].toArray (fun w => NodesAt w w.heap.size A c f.nodes)
    (ErrPost (FK.chk f)) := fun E w hE hw hN =>
  (flow_Check_calls w w.heap.size A c f (Nat.le_refl _) hN (hE.tab w hw)).mono fun e w' ⟨v, he, herr, hb⟩ => by
    have h0 := (Holds.start hw)
    rcases herr with ⟨h1, rfl⟩ | ⟨h1, b, rfl, hge, ho⟩
    · exact ⟨_, [], he, .inl ⟨h1, rfl, rfl⟩, h0.below hb⟩
    · exact ⟨_, [_], he, .inr ⟨h1, b, rfl, rfl⟩, h0.fresh hb hge ho⟩
theorem dec_bad1 {bs : List UInt8} {e : Nat} (h : FK.rd bs 0 = .error e) : FK.dec bs = .error (1, (e : Int)) := by
  unfold FK.dec FK.rdFlow
  rw [rdInt_err h]
  rfl
theorem rdFlow_err {bs : List UInt8} {n q e : Nat} (h : FK.rd bs 0 = .ok (n, q)) (h2 : FK.rdList bs (FK.rdNode bs) q = .error e) : FK.dec bs = .error (1, (e : Int)) := by
  unfold FK.dec FK.rdFlow
  rw [rdInt_ok h]
  simp only [FK.andThen, h2]
theorem rdFlow_ok {bs : List UInt8} {n q q' : Nat} {ns : List FK.Node} (h : FK.rd bs 0 = .ok (n, q)) (h2 : FK.rdList bs (FK.rdNode bs) q = .ok (ns, q')) : FK.rdFlow bs 0 = .ok (⟨n, ns⟩, q') := by
  unfold FK.rdFlow
  rw [rdInt_ok h]
  simp only [FK.andThen, h2]
theorem dec_more {bs : List UInt8} {f : FK.Flow} {q : Nat} (h : FK.rdFlow bs 0 = .ok (f, q)) (hq : q < bs.length) : FK.dec bs = .error (1, (q : Int)) := by
  unfold FK.dec
  rw [h]
  simp only [hq, if_true]
theorem dec_chk {bs : List UInt8} {f : FK.Flow} {q : Nat} (h : FK.rdFlow bs 0 = .ok (f, q)) (hq : ¬ q < bs.length) (hc : (FK.chk f).1 ≠ 0) : FK.dec bs = .error ((FK.chk f).1, (FK.chk f).2) := by
  unfold FK.dec
  rw [h]
  simp only [hq, if_false, hc]
theorem dec_good {bs : List UInt8} {f : FK.Flow} {q : Nat} (h : FK.rdFlow bs 0 = .ok (f, q)) (hq : ¬ q < bs.length) (hc : (FK.chk f).1 = 0) : FK.dec bs = .ok f := by
  unfold FK.dec
  rw [h]
  simp only [hq, if_false, hc, if_true]
variable {G : Env → Prop}
set_option maxRecDepth 10000 in
theorem catch_idle (b2 b3 : Nat) (x y z : Value) : DoesD Tryz.prog G 150 [.pointer (some ⟨b2, 0, none⟩), .pointer (some ⟨b3, 0, none⟩)].toArray .returning .returning [blk b2 29 #[x, y], blk b3 109 #[z]]
    fun m => m = [blk b2 29 #[x, y], blk b3 109 #[z]] := by
  refine DoesD.recover (v := .nilIface) Tryz.func150 rfl rfl rfl (.inl ⟨rfl, rfl, rfl⟩) fun E fr hE => ?_
  refine At.app2 ?_
  refine At.block ?_
  refine At.seq ?_
  refine At.region ?_
  refine L.pure rfl (ev_eqlNil0 rfl rfl) ?_
  refine L.nil ?_
  refine At.then ?_
  refine At.condT rfl ?_
  refine At.region ?_
  refine L.as rfl rfl ?_
  refine L.nil ?_
  refine At.inBlock ?_
  exact At.end0 [_, _] rfl ⟨rfl, rfl⟩ (Ent.refl _)
set_option maxRecDepth 10000 in
theorem catch_cut (b2 b3 e : Nat) (x y z : Value) : DoesD Tryz.prog G 150 [.pointer (some ⟨b2, 0, none⟩), .pointer (some ⟨b3, 0, none⟩)].toArray (.panicking (cutAt e)) (.panicking [{ v := .iface 237 (.int .i64 e), recovered := true }]) [blk b2 29 #[x, y], blk b3 109 #[z]]
    fun m => ∃ b, m = [blk b2 29 #[.int .i64 0, .slice none 0 0], blk b3 109 #[.iface 159 (.pointer (some ⟨b, 0, none⟩))], blk b 164 #[.int .i64 1, .int .i64 e]] := by
  refine DoesD.recover (v := .iface 237 (.int .i64 e)) Tryz.func150 rfl rfl rfl (.inr ⟨[], rfl, rfl⟩) fun E fr hE => ?_
  refine At.app2 ?_
  refine At.block ?_
  refine At.seq ?_
  refine At.region ?_
  refine L.pure rfl (ev_eqlNil rfl rfl) ?_
  refine L.nil ?_
  refine At.then ?_
  refine At.condF rfl ?_
  refine At.seq ?_
  refine At.region ?_
  refine L.pure rfl (ev_as rfl rfl rfl) ?_
  refine L.ex rfl rfl rfl ?_
  refine L.ex rfl rfl rfl ?_
  refine L.nil ?_
  refine At.then ?_
  refine At.condT rfl ?_
  refine At.seq ?_
  refine At.region ?_
  refine L.as rfl rfl ?_
  refine L.nil ?_
  refine At.then ?_
  refine At.region ?_
  refine L.pure rfl (ev_build (ps := []) (vs := []) (cs := #[.int .i64 0, .slice none 0 0]) rfl rfl rfl rfl rfl) ?_
  refine L.mv rfl rfl ?_
  refine L.pure rfl (ev_build (ps := [(0, .const (.int .i64 1)), (1, .tmp 12)]) (vs := [.int .i64 1, .int .i64 e]) (cs := #[.int .i64 1, .int .i64 e]) rfl rfl rfl rfl rfl) ?_
  refine L.op rfl (o_box rfl rfl fun b14 => ?_)
  refine L.pure rfl (ev_iface rfl rfl rfl) ?_
  refine L.op rfl (o_storeN rfl (m := 2) (vs := [.int .i64 0, .slice none 0 0]) rfl rfl rfl rfl (by simp [Value.oneCell']) (by simp) ?_)
  refine L.st rfl rfl rfl rfl (by simp) ?_
  refine L.nil ?_
  refine At.inBlock ?_
  exact At.end0 [_, _, _] rfl ⟨rfl, b14, rfl⟩ (Ent.perm (List.Perm.swap _ _ _))
end Go.Proofs.YtmeegfamopaljaaGreatDoor
