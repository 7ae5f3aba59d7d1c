/- The engine's Query. -/
import Derived.Test.YtmeegfamopaljaaGreatDoorFiR
import Derived.Test.YtmeegfamopaljaaGreatDoorFiJ
import Derived.Test.YtmeegfamopaljaaGreatDoorFiH
namespace Go.Proofs.YtmeegfamopaljaaGreatDoor
open Go Go.RowKit Go.SL
variable {G : Env → Prop}
abbrev infoL (run : Nat) (st : Int) (v2 v3 : Value) : List Value := [.int .u64 run, .int .i64 st, v2, v3]
set_option maxRecDepth 10000 in
set_option maxHeartbeats 1000000 in
theorem query1_does {e : Nat} {p : EA} {S : FK.En} {id : Nat} {R : FK.Rn} (hR : S.getR id = some R) (hn : R.steps.length ≤ 100) : Does Tryz.prog G 105 [ptr e, natV id].toArray [engX e p S] fun v m => ∃ v2 v3, v = .tuple #[.agg (infoL id R.state v2 v3).toArray, .bool true] ∧ m = [engX e p S, intsAt v2 (R.steps.map (·.state)), intsAt v3 (R.steps.map (·.tries))] := by
  refine Does.body Tryz.func105 rfl rfl fun E fr hE => ?_
  refine At.app1 ?_
  refine At.seq ?_
  refine At.region ?_
  refine L.op rfl (o_alloc (z := .agg #[.int .u64 0, .int .i64 0, .slice none 0 0, .slice none 0 0]) rfl rfl fun b4 => ?_)
  refine L.as rfl rfl ?_
  refine L.nil ?_
  refine At.then ?_
  refine At.seq ?_
  refine At.region ?_
  refine L.mv rfl rfl ?_
  refine L.nc rfl rfl ?_
  refine L.fa 1 rfl rfl rfl ?_
  refine L.val rfl (ev_load1 (v := .map (some p.rm)) rfl rfl) (eng_cell fun _ _ _ => rfl) ?_
  refine L.mv rfl rfl ?_
  refine L.val rfl (ev_vlookY (m := runM S p) rfl natKey rfl rfl (runs_get hR)) eng_runs ?_
  refine L.mv rfl rfl ?_
  refine L.ex rfl rfl rfl ?_
  refine L.ex rfl rfl rfl ?_
  refine L.as rfl rfl ?_
  refine L.as rfl rfl ?_
  refine L.nil ?_
  refine At.then ?_
  refine At.seq ?_
  refine At.seq ?_
  refine At.region ?_
  refine L.mv rfl rfl ?_
  refine L.pure rfl (ev_not rfl rfl) ?_
  refine L.nil ?_
  refine At.then ?_
  refine At.condF rfl ?_
  refine At.skip ?_
  refine At.then ?_
  refine At.seq ?_
  refine At.region ?_
  refine L.mv rfl rfl ?_
  refine L.mv rfl rfl ?_
  refine L.nc rfl rfl ?_
  refine L.fa 2 rfl rfl rfl ?_
  refine L.val rfl (ev_load1 (v := .int .i64 R.state) rfl rfl) (run_cell hR rfl) ?_
  refine L.pure rfl (ev_build (cs := (infoL id R.state (.slice none 0 0) (.slice none 0 0)).toArray) rfl rfl rfl rfl rfl) ?_
  refine L.op rfl (o_storeN (vs := infoL id R.state (.slice none 0 0) (.slice none 0 0)) rfl (m := 4) rfl rfl rfl rfl (by simp [Value.oneCell']) (by show 0 + 4 ≤ 4; omega) ?_)
  refine L.nil ?_
  refine At.then ?_
  refine At.seq ?_
  refine At.seq ?_
  refine At.region ?_
  refine L.mv rfl rfl ?_
  refine L.nc rfl rfl ?_
  refine L.fa 3 rfl rfl rfl ?_
  refine L.val rfl (ev_load1 (v := (p.ra id).sv R) rfl rfl) (run_cell hR rfl) ?_
  refine L.pure rfl (ev_lenS rfl rfl) ?_
  refine L.mv rfl rfl ?_
  refine L.nil ?_
  refine At.then ?_
  refine At.block ?_
  refine At.loop (X := Nat × Value × Value) (fun x => [(32, .int .i64 x.1), (31, .int .i64 R.steps.length), (30, (p.ra id).sv R), (4, ptr b4), (6, ptr (p.fb id))]) (fun x => blk b4 62 (infoL id R.state x.2.1 x.2.2).toArray :: row 3 1 x.2.1 x.1 (intsV ((R.steps.take x.1).map (·.state))) :: row 3 1 x.2.2 x.1 (intsV ((R.steps.take x.1).map (·.tries))) :: engX e p S :: fr) (fun x => x.1 ≤ R.steps.length) (fun x => R.steps.length - x.1) (0, .slice none 0 0, .slice none 0 0) (Nat.zero_le _) ⟨rfl, rfl, rfl, rfl, rfl, trivial⟩ (Ent.cons (Ent.row0.trans (Ent.cons Ent.row0))) ?_
  rintro ⟨k, v2, v3⟩ hk
  replace hk : k ≤ R.steps.length := hk
  refine At.ent (l' := blk b4 62 (infoL id R.state v2 v3).toArray :: row 3 1 v2 k (intsV ((R.steps.take k).map (·.state))) :: row 3 1 v3 k (intsV ((R.steps.take k).map (·.tries))) :: engX e p S :: fr) (Ent.refl _) ?_
  refine At.seq ?_
  refine At.region ?_
  refine L.pure rfl (ev_lss rfl rfl rfl) ?_
  refine L.nil ?_
  refine At.then ?_
  refine At.seq ?_
  refine At.condD rfl (fun c33 => ?_) (fun c33 => ?_)
  ·
    have hlt : k < R.steps.length := by have : (k : Int) < (R.steps.length : Int) := c33; omega
    obtain ⟨s, hs⟩ : ∃ s, R.steps[k]? = some s := ⟨R.steps[k], by simp [hlt]⟩
    have ht1 : intsV ((R.steps.take k).map (·.state)) ++ [.int .i64 s.state] = intsV ((R.steps.take (k + 1)).map (·.state)) := by rw [List.take_add_one, hs]; simp [intsV]
    have ht2 : intsV ((R.steps.take k).map (·.tries)) ++ [.int .i64 s.tries] = intsV ((R.steps.take (k + 1)).map (·.tries)) := by rw [List.take_add_one, hs]; simp [intsV]
    refine At.skip ?_
    refine At.then ?_
    refine At.seq ?_
    refine At.block ?_
    refine At.seq ?_
    refine At.region ?_
    refine L.pure rfl (ev_ixN (z := 3) rfl rfl rfl rfl hlt) ?_
    refine L.val rfl (ev_loadN (vs := spL s) rfl rfl rfl rfl) (step_row hR hs) ?_
    refine L.op rfl (o_alloc (z := .agg #[.int .i64 0, .int .i64 0, .int .u64 0]) rfl rfl fun b8 => ?_)
    refine L.op rfl (o_storeN (vs := spL s) rfl (m := 3) rfl rfl rfl rfl (by simp [Value.oneCell']) (by show 0 + 3 ≤ 3; omega) ?_)
    refine At.ent (l' := blk b8 265 (spL s).toArray :: blk b4 62 (infoL id R.state v2 v3).toArray :: row 3 1 v2 k (intsV ((R.steps.take k).map (·.state))) :: row 3 1 v3 k (intsV ((R.steps.take k).map (·.tries))) :: engX e p S :: fr) (Ent.refl _) ?_
    refine L.nil ?_
    refine At.then ?_
    refine Dr.start rfl ?_
    refine Dr.p 0 rfl rfl (by kernel_rfl) (ev_field (off := 2) rfl rfl) ?_
    refine Dr.ld 1 rfl rfl (by kernel_rfl) (ev_load1 rfl rfl) (cellIs rfl) ?_
    refine Dr.p 2 rfl rfl (by kernel_rfl) (ev_field (off := 0) rfl rfl) ?_
    refine Dr.ld 3 rfl rfl (by kernel_rfl) (ev_load1 rfl rfl) (cellIs rfl) ?_
    refine Dr.p 6 rfl rfl (by kernel_rfl) (ev_field (off := 3) rfl rfl) ?_
    refine Dr.ld 7 rfl rfl (by kernel_rfl) (ev_load1 rfl rfl) (cellIs rfl) ?_
    refine Dr.p 8 rfl rfl (by kernel_rfl) (ev_field (off := 1) rfl rfl) ?_
    refine Dr.ld 9 rfl rfl (by kernel_rfl) (ev_load1 rfl rfl) (cellIs rfl) ?_
    refine Dr.run2 4 10 rfl rfl rfl rfl (by kernel_rfl) (o_slice1 rfl rfl rfl rfl rfl rfl fun b40 => ?_) (o_slice1 rfl rfl rfl rfl rfl rfl fun b46 => ?_)
    ·
      refine Dr.kept [true, true, false, true] (by kernel_rfl) (Kept.cons (cellIs rfl) (Kept.cons (cellIs rfl) (Kept.cons (cellIs rfl) Kept.nil))) ?_
      refine Dr.run2 5 10 rfl rfl rfl rfl (by kernel_rfl) (o_append rfl rfl infoInt rfl (by omega) rfl rfl (HasVal.sel (v := v2)) (news := [.int .i64 s.state]) rfl (fun h => by cases h) (srcIs (fun j u h => by simpa using h)) (by simp [Value.oneCell']) (by unfold maxLen; omega) (by omega) fun v41 hv41 => ?_) (o_slice1 rfl rfl rfl rfl rfl rfl fun b46 => ?_)
      ·
        refine At.formRow (HasVal.sel (v := v41)) ?_
        rintro A41 c41 rfl - - - - -
        refine Dr.kept [true, true, false] (by kernel_rfl) (Kept.cons (cellIs rfl) (Kept.cons (cellIs rfl) Kept.nil)) ?_
        refine Dr.p 12 rfl rfl (by kernel_rfl) (ev_field (off := 2) rfl rfl) ?_
        refine Dr.run 10 rfl rfl (by kernel_rfl) (o_slice1 rfl rfl rfl rfl rfl rfl fun b46 => ?_)
        refine Dr.kept [false, true] (by kernel_rfl) (Kept.cons (cellIs rfl) Kept.nil) ?_
        refine Dr.run 11 rfl rfl (by kernel_rfl) (o_append rfl rfl infoInt rfl (by omega) rfl rfl (HasVal.sel (v := v3)) (news := [.int .i64 s.tries]) rfl (fun h => by cases h) (srcIs (fun j u h => by simpa using h)) (by simp [Value.oneCell']) (by unfold maxLen; omega) (by omega) fun v47 hv47 => ?_)
        refine At.formRow (HasVal.sel (v := v47)) ?_
        rintro A47 c47 rfl - - - - -
        refine Dr.kept [false] (by kernel_rfl) Kept.nil ?_
        refine Dr.run 13 rfl rfl (by kernel_rfl) (o_store1 rfl rfl rfl rfl rfl (by first | decide | simp | (simp; omega)) ?_)
        refine Dr.kept [] (by kernel_rfl) Kept.nil ?_
        refine Dr.p 14 rfl rfl (by kernel_rfl) (ev_field (off := 3) rfl rfl) ?_
        refine Dr.run 15 rfl rfl (by kernel_rfl) (o_store1 rfl rfl rfl rfl rfl (by first | decide | simp | (simp; omega)) ?_)
        refine Dr.kept [] (by kernel_rfl) Kept.nil ?_
        refine Dr.done (by kernel_rfl) ?_
        refine At.inBlock (At.then ?_)
        refine At.blkAs b4 (infoL id R.state (.slice A41 (k + 1) c41) (.slice A47 (k + 1) c47)).toArray rfl ?_
        refine At.region ?_
        refine L.pure rfl (ev_add (r := ((k + 1 : Nat) : Int)) rfl rfl (by rw [w64 (by omega)]; omega)) ?_
        refine L.mv rfl rfl ?_
        refine L.nil ?_
        exact At.round (k + 1, .slice A41 (k + 1) c41, .slice A47 (k + 1) c47) hlt (by show R.steps.length - (k + 1) < R.steps.length - k; omega) ⟨rfl, rfl, rfl, rfl, rfl, trivial⟩ (by rw [ht1, ht2]; exact Ent.auto)
      ·
        refine Dr.kept [false, true, true] (by kernel_rfl) (Kept.cons (cellIs rfl) (Kept.cons (cellIs rfl) Kept.nil)) ?_
        refine Dr.run 5 rfl rfl (by kernel_rfl) (o_append rfl rfl infoInt rfl (by omega) rfl rfl (HasVal.sel (v := v2)) (news := [.int .i64 s.state]) rfl (fun h => by cases h) (srcIs (fun j u h => by simpa using h)) (by simp [Value.oneCell']) (by unfold maxLen; omega) (by omega) fun v41 hv41 => ?_)
        refine At.formRow (HasVal.sel (v := v41)) ?_
        rintro A41 c41 rfl - - - - -
        refine Dr.kept [true, false] (by kernel_rfl) (Kept.cons (cellIs rfl) Kept.nil) ?_
        refine Dr.p 12 rfl rfl (by kernel_rfl) (ev_field (off := 2) rfl rfl) ?_
        refine Dr.run 11 rfl rfl (by kernel_rfl) (o_append rfl rfl infoInt rfl (by omega) rfl rfl (HasVal.sel (v := v3)) (news := [.int .i64 s.tries]) rfl (fun h => by cases h) (srcIs (fun j u h => by simpa using h)) (by simp [Value.oneCell']) (by unfold maxLen; omega) (by omega) fun v47 hv47 => ?_)
        refine At.formRow (HasVal.sel (v := v47)) ?_
        rintro A47 c47 rfl - - - - -
        refine Dr.kept [false] (by kernel_rfl) Kept.nil ?_
        refine Dr.run 13 rfl rfl (by kernel_rfl) (o_store1 rfl rfl rfl rfl rfl (by first | decide | simp | (simp; omega)) ?_)
        refine Dr.kept [] (by kernel_rfl) Kept.nil ?_
        refine Dr.p 14 rfl rfl (by kernel_rfl) (ev_field (off := 3) rfl rfl) ?_
        refine Dr.run 15 rfl rfl (by kernel_rfl) (o_store1 rfl rfl rfl rfl rfl (by first | decide | simp | (simp; omega)) ?_)
        refine Dr.kept [] (by kernel_rfl) Kept.nil ?_
        refine Dr.done (by kernel_rfl) ?_
        refine At.inBlock (At.then ?_)
        refine At.blkAs b4 (infoL id R.state (.slice A41 (k + 1) c41) (.slice A47 (k + 1) c47)).toArray rfl ?_
        refine At.region ?_
        refine L.pure rfl (ev_add (r := ((k + 1 : Nat) : Int)) rfl rfl (by rw [w64 (by omega)]; omega)) ?_
        refine L.mv rfl rfl ?_
        refine L.nil ?_
        exact At.round (k + 1, .slice A41 (k + 1) c41, .slice A47 (k + 1) c47) hlt (by show R.steps.length - (k + 1) < R.steps.length - k; omega) ⟨rfl, rfl, rfl, rfl, rfl, trivial⟩ (by rw [ht1, ht2]; exact Ent.auto)
    ·
      refine Dr.kept [false, true, true, true] (by kernel_rfl) (Kept.cons (cellIs rfl) (Kept.cons (cellIs rfl) (Kept.cons (cellIs rfl) Kept.nil))) ?_
      refine Dr.run 4 rfl rfl (by kernel_rfl) (o_slice1 rfl rfl rfl rfl rfl rfl fun b40 => ?_)
      refine Dr.kept [true, false, true] (by kernel_rfl) (Kept.cons (cellIs rfl) (Kept.cons (cellIs rfl) Kept.nil)) ?_
      refine Dr.run 5 rfl rfl (by kernel_rfl) (o_append rfl rfl infoInt rfl (by omega) rfl rfl (HasVal.sel (v := v2)) (news := [.int .i64 s.state]) rfl (fun h => by cases h) (srcIs (fun j u h => by simpa using h)) (by simp [Value.oneCell']) (by unfold maxLen; omega) (by omega) fun v41 hv41 => ?_)
      refine At.formRow (HasVal.sel (v := v41)) ?_
      rintro A41 c41 rfl - - - - -
      refine Dr.kept [true, false] (by kernel_rfl) (Kept.cons (cellIs rfl) Kept.nil) ?_
      refine Dr.p 12 rfl rfl (by kernel_rfl) (ev_field (off := 2) rfl rfl) ?_
      refine Dr.run 11 rfl rfl (by kernel_rfl) (o_append rfl rfl infoInt rfl (by omega) rfl rfl (HasVal.sel (v := v3)) (news := [.int .i64 s.tries]) rfl (fun h => by cases h) (srcIs (fun j u h => by simpa using h)) (by simp [Value.oneCell']) (by unfold maxLen; omega) (by omega) fun v47 hv47 => ?_)
      refine At.formRow (HasVal.sel (v := v47)) ?_
      rintro A47 c47 rfl - - - - -
      refine Dr.kept [false] (by kernel_rfl) Kept.nil ?_
      refine Dr.run 13 rfl rfl (by kernel_rfl) (o_store1 rfl rfl rfl rfl rfl (by first | decide | simp | (simp; omega)) ?_)
      refine Dr.kept [] (by kernel_rfl) Kept.nil ?_
      refine Dr.p 14 rfl rfl (by kernel_rfl) (ev_field (off := 3) rfl rfl) ?_
      refine Dr.run 15 rfl rfl (by kernel_rfl) (o_store1 rfl rfl rfl rfl rfl (by first | decide | simp | (simp; omega)) ?_)
      refine Dr.kept [] (by kernel_rfl) Kept.nil ?_
      refine Dr.done (by kernel_rfl) ?_
      refine At.inBlock (At.then ?_)
      refine At.blkAs b4 (infoL id R.state (.slice A41 (k + 1) c41) (.slice A47 (k + 1) c47)).toArray rfl ?_
      refine At.region ?_
      refine L.pure rfl (ev_add (r := ((k + 1 : Nat) : Int)) rfl rfl (by rw [w64 (by omega)]; omega)) ?_
      refine L.mv rfl rfl ?_
      refine L.nil ?_
      exact At.round (k + 1, .slice A41 (k + 1) c41, .slice A47 (k + 1) c47) hlt (by show R.steps.length - (k + 1) < R.steps.length - k; omega) ⟨rfl, rfl, rfl, rfl, rfl, trivial⟩ (by rw [ht1, ht2]; exact Ent.auto)
  ·
    have hke : k = R.steps.length := by have : ¬ (k : Int) < (R.steps.length : Int) := c33; omega
    refine At.exit ?_
    refine At.thenExit (At.roundExit (At.inBlockHit (At.then ?_)))
    refine At.seq ?_
    refine At.formRow (HasVal.sel (v := v2)) ?_
    rintro A2 c2 rfl - - - - -
    refine At.formRow (HasVal.sel (v := v3)) ?_
    rintro A3 c3 rfl - - - - -
    refine At.region ?_
    refine L.val rfl (ev_loadN (vs := infoL id R.state (.slice A2 k c2) (.slice A3 k c3)) rfl rfl rfl rfl) (rowAll rfl) ?_
    refine L.op rfl (o_storeN (vs := infoL id R.state (.slice A2 k c2) (.slice A3 k c3)) rfl (m := 4) rfl rfl rfl rfl (by simp [Value.oneCell']) (by show 0 + 4 ≤ 4; omega) ?_)
    refine L.as rfl rfl ?_
    refine L.nil ?_
    refine At.then ?_
    refine At.ret ?_
    refine At.res2 [engX e p S, intsAt (.slice A2 k c2) (R.steps.map (·.state)), intsAt (.slice A3 k c3) (R.steps.map (·.tries))] rfl (Res.cellN (vs := infoL id R.state (.slice A2 k c2) (.slice A3 k c3)) rfl rfl rfl rfl (rowAll rfl)) (Res.tmp rfl) ⟨_, _, rfl, rfl⟩ ?_
    rw [List.take_of_length_le (by omega)]
    show Ent _ (engX e p S :: row 3 1 _ (R.steps.map (·.state)).length _ :: row 3 1 _ (R.steps.map (·.tries)).length _ :: fr)
    rw [List.length_map, List.length_map, ← hke]
    exact Ent.auto
end Go.Proofs.YtmeegfamopaljaaGreatDoor

namespace Go.Proofs.YtmeegfamopaljaaGreatDoor
open Go Go.RowKit Go.SL
variable {G : Env → Prop}
abbrev qV (S : FK.En) (l : List FK.Pl) : List Value := l.flatMap fun q => taskL q.run q.node (S.tryOf q) 0
theorem infoTask : elemIs Tryz.prog 55 (taskV 0 0 0 0) 4 32 := by unfold elemIs; kernel_rfl
theorem fill_task (id : Nat) (j t : Int) (tok : Nat) : Instr.fill (fun i => some (i * 4, 4)) (Array.map (fun x => (taskV 0 0 0 0).cells[x % (taskV 0 0 0 0).cells.size]!) (Array.range (1 * 4))) ((List.map (fun x => x.fst) [((0 : Nat), Operand.tmp 39)]).zip [taskV id j t tok]) = some (taskL id j t tok).toArray := by
  have e1 : Array.range (1 * 4) = #[0, 1, 2, 3] := rfl
  rw [e1]
  simp [Instr.fill, Value.cells]
set_option maxRecDepth 10000 in
set_option maxHeartbeats 1000000 in
theorem queue_does {e : Nat} {p : EA} {S : FK.En} (hok : S.QueueOk) (hq : S.queue.length ≤ 1000) : Does Tryz.prog G 98 [ptr e].toArray [engX e p S] fun v m => m = [engX e p S, row 55 4 v S.queue.length (qV S S.queue)] := by
  refine Does.body Tryz.func98 rfl rfl fun E fr hE => ?_
  refine At.app1 ?_
  refine At.seq ?_
  refine At.region ?_
  refine L.as rfl rfl ?_
  refine L.nil ?_
  refine At.then ?_
  refine At.seq ?_
  refine At.region ?_
  refine L.as rfl rfl ?_
  refine L.nil ?_
  refine At.then ?_
  refine At.seq ?_
  refine At.seq ?_
  refine At.region ?_
  refine L.mv rfl rfl ?_
  refine L.nc rfl rfl ?_
  refine L.fa 3 rfl rfl rfl ?_
  refine L.op rfl (o_call rfl rfl rfl hE rlen_eng (Ent.refl _) ?_)
  rintro v m ⟨rfl, rfl⟩
  refine At.app1 ?_
  refine L.mv rfl rfl ?_
  refine L.nil ?_
  refine At.then ?_
  refine At.block ?_
  refine At.loop (X := Nat × Value) (fun x => [(10, .int .i64 x.1), (9, .int .i64 S.queue.length), (3, x.2), (0, ptr e)]) (fun x => row 55 4 x.2 x.1 (qV S (S.queue.take x.1)) :: engX e p S :: fr) (fun x => x.1 ≤ S.queue.length) (fun x => S.queue.length - x.1) (0, .slice none 0 0) (Nat.zero_le _) ⟨rfl, rfl, rfl, rfl, trivial⟩ Ent.row0 ?_
  rintro ⟨k, v3⟩ hk
  replace hk : k ≤ S.queue.length := hk
  refine At.ent (l' := row 55 4 v3 k (qV S (S.queue.take k)) :: engX e p S :: fr) (Ent.refl _) ?_
  refine At.seq ?_
  refine At.region ?_
  refine L.pure rfl (ev_lss rfl rfl rfl) ?_
  refine L.nil ?_
  refine At.then ?_
  refine At.seq ?_
  refine At.condD rfl (fun c11 => ?_) (fun c11 => ?_)
  ·
    have hlt : k < S.queue.length := by have : (k : Int) < (S.queue.length : Int) := c11; omega
    obtain ⟨q, hq1⟩ : ∃ q, S.queue[k]? = some q := ⟨S.queue[k], by simp [hlt]⟩
    obtain ⟨hq0, R, s, hR, hs, hs1, hs2⟩ := hok q (List.mem_of_getElem? hq1)
    obtain ⟨j, hj⟩ : ∃ j : Nat, q.node = (j : Int) := ⟨q.node.toNat, by omega⟩
    obtain ⟨id, nd, wh⟩ := q
    simp only at hj hR hs
    subst hj
    rw [Int.toNat_natCast] at hs
    have hjl := (List.getElem?_eq_some_iff.1 hs).1
    have htry : S.tryOf ⟨id, (j : Int), wh⟩ = s.tries + 1 := by
      unfold FK.En.tryOf
      simp only [hR, Int.toNat_natCast, hs]
    have htk : qV S (S.queue.take k) ++ taskL id (j : Int) (s.tries + 1) 0 = qV S (S.queue.take (k + 1)) := by
      rw [List.take_add_one, hq1]
      unfold qV
      rw [List.flatMap_append, ← htry]
      rfl
    refine At.skip ?_
    refine At.then ?_
    refine At.seq ?_
    refine At.block ?_
    refine At.seq ?_
    refine At.region ?_
    refine L.mv rfl rfl ?_
    refine L.as rfl rfl ?_
    refine L.nil ?_
    refine At.then ?_
    refine At.seq ?_
    refine At.region ?_
    refine L.mv rfl rfl ?_
    refine L.nc rfl rfl ?_
    refine L.fa 3 rfl rfl rfl ?_
    refine L.mv rfl rfl ?_
    refine L.op rfl (o_call rfl rfl rfl hE (rat_eng hq1) (Ent.sel (.tail (.head))) ?_)
    rintro v m ⟨rfl, rfl⟩
    refine At.app1 ?_
    refine L.op rfl (o_alloc (z := .agg #[.int .u64 0, .int .i64 0, .int .i64 0]) rfl rfl fun b5 => ?_)
    refine L.op rfl (o_storeN (vs := plL ⟨id, (j : Int), wh⟩) rfl (m := 3) rfl rfl rfl rfl (by simp [Value.oneCell']) (by show 0 + 3 ≤ 3; omega) ?_)
    refine At.blkAs b5 (plL ⟨id, (j : Int), wh⟩).toArray rfl ?_
    refine L.nil ?_
    refine At.then ?_
    refine Dr.start rfl ?_
    refine Dr.p 0 rfl rfl (by kernel_rfl) (ev_move rfl) ?_
    refine Dr.p 1 rfl rfl (by kernel_rfl) (ev_field (off := 0) rfl rfl) ?_
    refine Dr.ld 2 rfl rfl (by kernel_rfl) (ev_load1 rfl rfl) (cellIs rfl) ?_
    refine Dr.p 3 rfl rfl (by kernel_rfl) (ev_field (off := 1) rfl rfl) ?_
    refine Dr.ld 4 rfl rfl (by kernel_rfl) (ev_load1 rfl rfl) (cellIs rfl) ?_
    refine Dr.p 5 rfl rfl (by kernel_rfl) (ev_move rfl) ?_
    refine Dr.p 6 rfl rfl (by kernel_rfl) (ev_nil rfl) ?_
    refine Dr.p 7 rfl rfl (by kernel_rfl) (ev_field (off := 1) rfl rfl) ?_
    refine Dr.ld 8 rfl rfl (by kernel_rfl) (ev_load1 (v := .map (some p.rm)) rfl rfl) (eng_cell fun _ _ _ => rfl) ?_
    refine Dr.p 9 rfl rfl (by kernel_rfl) (ev_field (off := 0) rfl rfl) ?_
    refine Dr.ld 10 rfl rfl (by kernel_rfl) (ev_load1 rfl rfl) (cellIs rfl) ?_
    refine Dr.ld 11 rfl rfl (by kernel_rfl) (ev_vget (a := id) (v := ptr (p.fb id)) rfl natKey rfl rfl (runs_get hR)) eng_runs ?_
    refine Dr.p 12 rfl rfl (by kernel_rfl) (ev_nil rfl) ?_
    refine Dr.p 13 rfl rfl (by kernel_rfl) (ev_field (off := 3) rfl rfl) ?_
    refine Dr.ld 14 rfl rfl (by kernel_rfl) (ev_load1 (v := (p.ra id).sv R) rfl rfl) (run_cell hR rfl) ?_
    refine Dr.p 15 rfl rfl (by kernel_rfl) (ev_field (off := 1) rfl rfl) ?_
    refine Dr.ld 16 rfl rfl (by kernel_rfl) (ev_load1 rfl rfl) (cellIs rfl) ?_
    refine Dr.p 17 rfl rfl (by kernel_rfl) (ev_ixN (z := 3) rfl rfl rfl rfl hjl) ?_
    refine Dr.p 18 rfl rfl (by kernel_rfl) (ev_field (off := 1) rfl rfl) ?_
    refine Dr.ld 19 rfl rfl (by kernel_rfl) (ev_load1 (v := .int .i64 s.tries) rfl rfl) (step_cell hR hs rfl) ?_
    refine Dr.p 20 rfl rfl (by kernel_rfl) (ev_add (r := s.tries + 1) rfl rfl (by rw [w64 (by omega)])) ?_
    refine Dr.p 21 rfl rfl (by kernel_rfl) (ev_build (cs := (taskL id j (s.tries + 1) 0).toArray) rfl rfl rfl rfl rfl) ?_
    refine Dr.run 22 rfl rfl (by kernel_rfl) (o_slices (m := 1) (z := taskV 0 0 0 0) (size := 4) (ps := [(0, .tmp 39)]) (vs := [taskV id j (s.tries + 1) 0]) (cs := (taskL id j (s.tries + 1) 0).toArray) rfl rfl rfl rfl (by omega) (by omega) rfl (fill_task _ _ _ _) fun b40 => ?_)
    refine Dr.kept [true, true, true, true, true, true, true, true] (by kernel_rfl) (Kept.cons (step_cell hR hs rfl) (Kept.cons (cellIs rfl) (Kept.cons (run_cell hR rfl) (Kept.cons eng_runs (Kept.cons (cellIs rfl) (Kept.cons (eng_cell fun _ _ _ => rfl) (Kept.cons (cellIs rfl) (Kept.cons (cellIs rfl) Kept.nil)))))))) ?_
    refine Dr.run 23 rfl rfl (by kernel_rfl) (o_append rfl rfl infoTask rfl (by omega) rfl rfl (HasVal.sel (v := v3)) (news := taskL id j (s.tries + 1) 0) rfl (fun h => by cases h) (srcIs (fun j u h => by simpa using h)) (by simp [Value.oneCell']) (by unfold maxLen; omega) (by omega) fun v41 hv41 => ?_)
    refine Dr.kept [true, true, true, true, true, true, true, true] (by kernel_rfl) (Kept.cons (step_cell hR hs rfl) (Kept.cons (cellIs rfl) (Kept.cons (run_cell hR rfl) (Kept.cons eng_runs (Kept.cons (cellIs rfl) (Kept.cons (eng_cell fun _ _ _ => rfl) (Kept.cons (cellIs rfl) (Kept.cons (cellIs rfl) Kept.nil)))))))) ?_
    refine Dr.p 24 rfl rfl (by kernel_rfl) (ev_assign rfl) ?_
    refine Dr.done (by kernel_rfl) ?_
    refine At.inBlock (At.then ?_)
    refine At.region ?_
    refine L.pure rfl (ev_add (r := ((k + 1 : Nat) : Int)) rfl rfl (by rw [w64 (by omega)]; omega)) ?_
    refine L.mv rfl rfl ?_
    refine L.nil ?_
    exact At.round (k + 1, v41) hlt (by show S.queue.length - (k + 1) < S.queue.length - k; omega) ⟨rfl, rfl, rfl, rfl, trivial⟩ (by rw [htk]; exact Ent.auto)
  ·
    have hke : k = S.queue.length := by have : ¬ (k : Int) < (S.queue.length : Int) := c11; omega
    rw [hke, List.take_length]
    refine At.exit ?_
    refine At.thenExit (At.roundExit (At.inBlockHit (At.then ?_)))
    refine At.seq ?_
    refine At.region ?_
    refine L.mv rfl rfl ?_
    refine L.as rfl rfl ?_
    refine L.nil ?_
    refine At.then ?_
    refine At.ret ?_
    exact At.ret1 [engX e p S, row 55 4 v3 S.queue.length (qV S S.queue)] rfl rfl rfl (by show Ent _ (_ :: _ :: fr); exact Ent.auto)
end Go.Proofs.YtmeegfamopaljaaGreatDoor

namespace Go.Proofs.YtmeegfamopaljaaGreatDoor
open Go Go.RowKit Go.SL
variable {G : Env → Prop}
set_option maxRecDepth 10000 in
theorem indexFunc_does {Y : List HP} (xs : List Int) (A : Option Addr) (c : Nat) (F : FuncId) (cap : Array Value) (f : Int → Bool) (hlen : xs.length ≤ 9223372036854775807) (hA : xs ≠ [] → ∃ g, A = some ⟨g, 0, none⟩ ∧ ∀ E w r, Holds E w (Y ++ r) → ∀ j x, xs[j]? = some x → CellIs ⟨g, 0 + j * 1, none⟩ (.int .i64 x) w) (hF : hasBody Tryz.prog F = true) (hf : ∀ x ∈ xs, Does Tryz.prog G F (#[.int .i64 x] ++ cap) Y fun v m => v = .bool (f x) ∧ m = Y) :
    Does Tryz.prog G 281 [.slice A xs.length c, .func (.func F) #[] cap].toArray Y fun u m => (∃ i : Int, u = .int .i64 i ∧ (0 ≤ i ↔ xs.any f = true)) ∧ m = Y := by
  refine Does.body Tryz.func281 rfl rfl fun E fr hE => ?_
  refine At.seq ?_
  refine At.region ?_
  refine L.as rfl rfl ?_
  refine L.nil ?_
  refine At.then ?_
  refine At.seq ?_
  refine At.seq ?_
  refine At.region ?_
  refine L.mv rfl rfl ?_
  refine L.pure rfl (ev_lenS rfl rfl) ?_
  refine L.mv rfl rfl ?_
  refine L.nil ?_
  refine At.then ?_
  refine At.block ?_
  refine At.loop (X := Nat) (fun k => [(8, .int .i64 k), (7, .int .i64 xs.length), (0, .slice A xs.length c), (1, .func (.func F) #[] cap)]) (fun _ => Y ++ fr) (fun k => k ≤ xs.length ∧ (xs.take k).any f = false) (fun k => xs.length - k) 0 ⟨Nat.zero_le _, rfl⟩ ⟨rfl, rfl, rfl, rfl, trivial⟩ (Ent.refl _) ?_
  rintro k ⟨hk, hno⟩
  refine At.seq ?_
  refine At.region ?_
  refine L.pure rfl (ev_lss rfl rfl rfl) ?_
  refine L.nil ?_
  refine At.then ?_
  refine At.seq ?_
  refine At.condD rfl (fun c9 => ?_) (fun c9 => ?_)
  ·
    have hlt : k < xs.length := by omega
    obtain ⟨g, rfl, hcell⟩ := hA (by intro h; rw [h] at hlt; simp at hlt)
    obtain ⟨x, hx⟩ : ∃ x, xs[k]? = some x := ⟨xs[k], by simp [hlt]⟩
    have htk : xs.take (k + 1) = xs.take k ++ [x] := by rw [List.take_add_one, hx]; rfl
    refine At.skip ?_
    refine At.then ?_
    refine At.seq ?_
    refine At.block ?_
    refine At.seq ?_
    refine At.region ?_
    refine L.mv rfl rfl ?_
    refine L.as rfl rfl ?_
    refine L.nil ?_
    refine At.then ?_
    refine At.seq ?_
    refine At.region ?_
    refine L.mv rfl rfl ?_
    refine L.mv rfl rfl ?_
    refine L.mv rfl rfl ?_
    refine L.pure rfl (ev_ixN (z := 1) rfl rfl rfl rfl hlt) ?_
    refine L.val rfl (ev_load1 (v := .int .i64 x) rfl rfl) (fun w hw => hcell _ _ _ hw k x hx) ?_
    refine L.op rfl (o_callV rfl rfl hF rfl hE (hf x (List.mem_of_getElem? hx)) (Ent.refl _) ?_)
    rintro v m ⟨rfl, hm⟩
    rw [hm]
    refine L.nil ?_
    refine At.then ?_
    refine At.cond rfl (fun c16 => ?_) (fun c16 => ?_)
    ·
      refine At.seq ?_
      refine At.region ?_
      refine L.mv rfl rfl ?_
      refine L.as rfl rfl ?_
      refine L.nil ?_
      refine At.then ?_
      refine At.ret ?_
      refine At.inBlockRet (At.thenRet (At.roundRet (At.inBlockRet (At.thenRet ?_))))
      exact At.ret1 Y rfl rfl ⟨⟨_, rfl, by
        have : xs.any f = true := List.any_eq_true.2 ⟨x, List.mem_of_getElem? hx, c16⟩
        simp [this]⟩, rfl⟩ (Ent.refl _)
    ·
      refine At.skip ?_
      refine At.inBlock (At.then ?_)
      refine At.region ?_
      refine L.pure rfl (ev_add (r := ((k + 1 : Nat) : Int)) rfl rfl (by rw [w64 (by omega)]; omega)) ?_
      refine L.mv rfl rfl ?_
      refine L.nil ?_
      exact At.round (k + 1) ⟨hlt, by rw [htk, List.any_append, hno]; simp [c16]⟩ (by omega) ⟨rfl, rfl, rfl, rfl, trivial⟩ (Ent.refl _)
  ·
    have hke : k = xs.length := by omega
    rw [hke, List.take_length] at hno
    refine At.exit ?_
    refine At.thenExit (At.roundExit (At.inBlockHit (At.then ?_)))
    refine At.seq ?_
    refine At.region ?_
    refine L.as rfl rfl ?_
    refine L.nil ?_
    refine At.then ?_
    refine At.ret ?_
    exact At.ret1 Y rfl rfl ⟨⟨_, rfl, by simp [hno]⟩, rfl⟩ (Ent.refl _)
set_option maxRecDepth 10000 in
theorem containsFunc_does {Y : List HP} (xs : List Int) (A : Option Addr) (c : Nat) (F : FuncId) (cap : Array Value) (f : Int → Bool) (hlen : xs.length ≤ 9223372036854775807) (hA : xs ≠ [] → ∃ g, A = some ⟨g, 0, none⟩ ∧ ∀ E w r, Holds E w (Y ++ r) → ∀ j x, xs[j]? = some x → CellIs ⟨g, 0 + j * 1, none⟩ (.int .i64 x) w) (hF : hasBody Tryz.prog F = true) (hf : ∀ x ∈ xs, Does Tryz.prog G F (#[.int .i64 x] ++ cap) Y fun v m => v = .bool (f x) ∧ m = Y) :
    Does Tryz.prog G 256 [.slice A xs.length c, .func (.func F) #[] cap].toArray Y fun u m => u = .bool (xs.any f) ∧ m = Y := by
  refine Does.body Tryz.func256 rfl rfl fun E fr hE => ?_
  refine At.seq ?_
  refine At.region ?_
  refine L.as rfl rfl ?_
  refine L.nil ?_
  refine At.then ?_
  refine At.seq ?_
  refine At.region ?_
  refine L.mv rfl rfl ?_
  refine L.mv rfl rfl ?_
  refine L.op rfl (o_call rfl rfl rfl hE (indexFunc_does xs A c F cap f hlen hA hF hf) (Ent.refl _) ?_)
  rintro v m ⟨⟨i, rfl, hi⟩, hm⟩
  rw [hm]
  refine L.pure rfl (ev_geq rfl rfl rfl) ?_
  refine L.as rfl rfl ?_
  refine L.nil ?_
  refine At.then ?_
  refine At.ret ?_
  have hd : decide ((0 : Int) ≤ i) = xs.any f := by
    cases hx : xs.any f with
    | true => exact decide_eq_true (hi.2 hx)
    | false => exact decide_eq_false (fun h => by rw [hi.1 h] at hx; cases hx)
  exact At.ret1 Y rfl rfl ⟨by rw [hd], rfl⟩ (Ent.refl _)
theorem Ent.under {n : Nat} {a b : List HP} (h : Ent a b) : Ent (a.map (SL.under n)) (b.map (SL.under n)) := fun w _ s => (Star.under (h w _ (Star.ununder s)) fun _ hk => hk.2).mono fun _ hk => hk.1
theorem Ent.unrow {n g c m size : Nat} {t : TypeId} {xs : List Value} {r : List HP} : Ent (SL.under n (row t size (.slice (some ⟨g, 0, none⟩) m c) m xs) :: r) (HP.pure (g < n) :: row t size (.slice (some ⟨g, 0, none⟩) m c) m xs :: r) := fun w F ⟨F1, F2, h1, h2, hd, hp, hl⟩ =>
  Ent.pure (hp.2 g rfl).2 w F ⟨F1, F2, h1, h2, hd, (row t size (.slice (some ⟨g, 0, none⟩) m c) m xs).loc (fun _ h => h.1) (fun _ _ => rfl) hp, hl⟩
theorem Ent.inrow {n g c m size : Nat} {t : TypeId} {xs : List Value} {r : List HP} (hg : g < n) : Ent (row t size (.slice (some ⟨g, 0, none⟩) m c) m xs :: r) (SL.under n (row t size (.slice (some ⟨g, 0, none⟩) m c) m xs) :: r) := fun _ _ ⟨F1, F2, h1, h2, hd, hp, hl⟩ =>
  ⟨F1, F2, h1, h2, hd, ⟨hp.1, fun k hk => ⟨hp.2 k hk, by injection hk with hk; subst hk; exact hg⟩⟩, hl⟩
theorem Ent.unob {n b : Nat} {o : Obj} {r : List HP} : Ent (SL.under n (ob b o) :: r) (HP.pure (b < n) :: ob b o :: r) := fun w F ⟨F1, F2, h1, h2, hd, hp, hl⟩ =>
  Ent.pure hp.1.2 w F ⟨F1, F2, h1, h2, hd, ⟨hp.1.1, hp.2⟩, hl⟩
theorem Ent.inob {n b : Nat} {o : Obj} {r : List HP} (hb : b < n) : Ent (ob b o :: r) (SL.under n (ob b o) :: r) := fun _ _ ⟨F1, F2, h1, h2, hd, hp, hl⟩ =>
  ⟨F1, F2, h1, h2, hd, ⟨⟨hp.1, hb⟩, hp.2⟩, hl⟩
section
variable {P : Program} {E : Env} {n : Nat} {D : List Deferred} {ts : List (Nat × Value)} {l r : List HP} {Q : Exit → Act → World → Prop} {ty : TypeId} {pos : String} {af : Array Edge} {g : Option (Nat × Bool)} {t : TypeId} {x y : Operand} {e : Nat} {p : EA} {S : FK.En} {K : Act → World → Prop}
theorem o_stStepU {h id k j o : Nat} {R : FK.Rn} {s s' : FK.Sp} {v : Value} (H : Sel (SL.under h (engX e p S)) l r) (hR : S.getR id = some R) (hs : R.steps[k]? = some s) (hz : sizeIs P t 1) (hx : ev ts x = some (.pointer (some ⟨(p.ra id).gs, o, none⟩))) (hy : ev ts y = some v) (ho : o = 0 + k * 3 + j) (hj : j < 3) (hv : v.oneCell' = true) (hset : (spL s).set j v = spL s')
    (hk : At E n D ts (SL.under h (engX e p (S.setR id (R.setS k s'))) :: r) K) : At E n D ts l (fun a w => (Oper.mk none (.store t x y) ty pos af g).wp P a w K Q) := by
  refine At.ent (Ent.sel H) ?_
  refine At.fact (p := EngOk S) (fun w hw => eng_ok hw) fun hn => ?_
  obtain ⟨a, b, hab, hset'⟩ := getR_split hR hn
  refine At.ent ((Ent.under (n := h) (Ent.openRun (e := e) (p := p) (r := []) hab)).append r) ?_
  rw [List.append_nil]
  have hkl := (List.getElem?_eq_some_iff.1 hs).1
  have hl : (R.setS k s').steps.length = R.steps.length := by simp [FK.Rn.setS]
  show At E n D ts (SL.under h (HP.pure ((p.ra id).vs.length = R.fl.nodes.length)) :: SL.under h (runB (p.fb id) (p.ra id) R) :: SL.under h (row 46 7 ((p.ra id).nv R) R.fl.nodes.length (nodesV R.fl.nodes (p.ra id).vs)) :: SL.under h (aftsAll (p.ra id).vs R.fl.nodes) :: SL.under h (row 265 3 ((p.ra id).sv R) R.steps.length (spV R.steps)) :: ((restL e p S a b).map (SL.under h) ++ r)) _
  refine At.ent ((Ent.sel (.tail (.tail (.tail (.tail .head))))).trans Ent.unrow) ?_
  refine At.pure .head fun hg => ?_
  refine o_storeRow .head hz hx hy hv (by omega) ?_
  refine At.ent ?_ hk
  subst ho
  rw [spV_set1 hs hj hset]
  refine (Ent.inrow hg).trans ?_
  refine ((Ent.sel3 (.tail .head) (.tail .head) (.tail .head)).trans (Ent.cons (Ent.cons (Ent.cons (Ent.sel (.tail .head)))))).trans ?_
  have hc := (Ent.under (n := h) (Ent.closeRun (e := e) (p := p) (r := []) hn (hset' (R.setS k s')))).append r
  rw [List.append_nil] at hc
  refine Ent.trans ?_ hc
  show Ent _ (SL.under h (HP.pure ((p.ra id).vs.length = R.fl.nodes.length)) :: SL.under h (blk (p.fb id) 263 #[.int .i64 R.fl.deadline, (p.ra id).nv R, .int .i64 R.state, .slice (some ⟨(p.ra id).gs, 0, none⟩) (R.setS k s').steps.length (p.ra id).cs, .int .u64 R.ended]) :: SL.under h (row 46 7 ((p.ra id).nv R) R.fl.nodes.length (nodesV R.fl.nodes (p.ra id).vs)) :: SL.under h (aftsAll (p.ra id).vs R.fl.nodes) :: SL.under h (row 265 3 (.slice (some ⟨(p.ra id).gs, 0, none⟩) (R.setS k s').steps.length (p.ra id).cs) (R.setS k s').steps.length (spV (R.steps.set k s'))) :: ((restL e p S a b).map (SL.under h) ++ r))
  rw [hl]
  exact Ent.refl _
end
end Go.Proofs.YtmeegfamopaljaaGreatDoor

namespace FK
theorem skipK_at {ns : List Node} {l : List Sp} {k : Nat} {s : Sp} {nd : Node} (hs : l[k]? = some s) (hn : ns[k]? = some nd) : skipK ns l k = if s.state = 1 ∧ (nd.after.any fun u => isAt l u.toNat 6 || isAt l u.toNat 7) then l.set k { s with state := 7 } else l := by
  unfold skipK
  rw [hs, hn]
end FK
namespace Go.Proofs.YtmeegfamopaljaaGreatDoor
open Go Go.RowKit Go.SL
variable {G : Env → Prop}
abbrev runPtr (c : Nat) (v : Value) : HP := blk c 260 #[v]
theorem setR_id {S : FK.En} {id : Nat} {R : FK.Rn} (hR : S.getR id = some R) (hn : EngOk S) : S.setR id R = S := by
  obtain ⟨a, b, h1, h2⟩ := getR_split hR hn
  have h3 : (S.setR id R).runs = S.runs := by rw [h2, h1]
  have h4 : S.setR id R = { S with runs := (S.setR id R).runs } := rfl
  rw [h4, h3]
set_option maxRecDepth 10000 in
theorem fails11_does {e : Nat} {p : EA} {S : FK.En} {id u h c : Nat} {R : FK.Rn} {s : FK.Sp} (hR : S.getR id = some R) (hs : R.steps[u]? = some s) : Does Tryz.prog G 257 [.int .i64 u, ptr c].toArray [SL.under h (engX e p S), runPtr c (ptr (p.fb id))] fun v m => v = .bool (decide (s.state ∈ [6, 7])) ∧ m = [SL.under h (engX e p S), runPtr c (ptr (p.fb id))] := by
  refine Does.body Tryz.func257 rfl rfl fun E fr hE => ?_
  refine At.app2 ?_
  refine At.seq ?_
  refine At.region ?_
  refine L.as rfl rfl ?_
  refine L.nil ?_
  refine At.then ?_
  refine At.seq ?_
  refine At.region ?_
  refine L.ld rfl rfl rfl rfl ?_
  refine L.mv rfl rfl ?_
  refine L.op rfl (o_slice2 rfl rfl rfl rfl rfl rfl rfl rfl fun b6 => ?_)
  refine L.op rfl (o_call rfl rfl rfl hE (is_under [6, 7] (some ⟨b6, 0, none⟩) 2 hR hs) ((Ent.sel2 (.tail (.head)) .head).trans (Ent.cons (ent_states (xs := [6, 7]) (show 2 ≤ 9223372036854775807 by omega)))) ?_)
  rintro v m ⟨rfl, rfl⟩
  refine At.app1 ?_
  refine L.as rfl rfl ?_
  refine L.nil ?_
  refine At.then ?_
  refine At.ret ?_
  exact At.ret1 [_, _] rfl rfl ⟨rfl, rfl⟩ (Ent.refl _)
set_option maxRecDepth 10000 in
set_option maxHeartbeats 1000000 in
theorem fails1_does {e : Nat} {p : EA} {S : FK.En} {id k h c : Nat} {R : FK.Rn} (hR : S.getR id = some R) (hlen : R.steps.length = R.fl.nodes.length) (hfit : FitA R.fl) (_hn : R.fl.nodes.length ≤ 100) (hk : k < R.fl.nodes.length) :
    Does Tryz.prog G 255 (#[.int .i64 k] ++ #[ptr c]) [SL.under h (engX e p S), SL.under h (runPtr c (ptr (p.fb id)))] fun v m => v = .tuple #[] ∧ m = [SL.under h (engX e p (S.setR id { R with steps := FK.skipK R.fl.nodes R.steps k })), SL.under h (runPtr c (ptr (p.fb id)))] := by
  obtain ⟨s, hs⟩ : ∃ s, R.steps[k]? = some s := ⟨R.steps[k]'(by omega), by simp⟩
  obtain ⟨nd, hnd⟩ : ∃ nd, R.fl.nodes[k]? = some nd := ⟨R.fl.nodes[k], by simp [hk]⟩
  have hkl := (List.getElem?_eq_some_iff.1 hs).1
  have hsk := FK.skipK_at hs hnd
  refine Does.body Tryz.func255 rfl rfl fun E fr hE => ?_
  refine At.app2 ?_
  refine At.ent ((Ent.sel (.tail .head)).trans Ent.unob) (At.pure .head fun hch => ?_)
  refine At.fact (p := EngOk S) (fun w hw => eng_ok hw) fun hok => ?_
  have hsame : S.setR id R = S := setR_id hR hok
  refine At.fact (fun w hw => aft_form hR hnd hw) fun hA => ?_
  obtain ⟨A, ca, hu, hA1, hA2, hA3, hA4⟩ := hA
  replace hA4 : ca ≤ 9223372036854775807 := hA4
  have hcf : ∀ x ∈ nd.after, Does Tryz.prog G 257 (#[.int .i64 x] ++ #[ptr c]) [SL.under h (engX e p S), runPtr c (ptr (p.fb id))] fun v m => v = .bool (FK.isAt R.steps x.toNat 6 || FK.isAt R.steps x.toNat 7) ∧ m = [SL.under h (engX e p S), runPtr c (ptr (p.fb id))] := fun x hx => by
    obtain ⟨hx0, hxn⟩ := hfit nd (List.mem_of_getElem? hnd) x hx
    obtain ⟨u, rfl⟩ : ∃ u : Nat, x = (u : Int) := ⟨x.toNat, by omega⟩
    obtain ⟨s2, hs2⟩ : ∃ s2, R.steps[u]? = some s2 := ⟨R.steps[u]'(by omega), by simp⟩
    have hb : decide (s2.state ∈ ([6, 7] : List Int)) = (FK.isAt R.steps (u : Int).toNat 6 || FK.isAt R.steps (u : Int).toNat 7) := by
      rw [Int.toNat_natCast, FK.isAt_some hs2, FK.isAt_some hs2]
      by_cases h6 : s2.state = 6
      · simp [h6]
      · by_cases h7 : s2.state = 7 <;> simp [h6, h7]
    rw [← hb]
    exact fails11_does hR hs2
  have hcl : nd.after ≠ [] → ∃ g, A = some ⟨g, 0, none⟩ ∧ ∀ E w r, Holds E w ([SL.under h (engX e p S), runPtr c (ptr (p.fb id))] ++ r) → ∀ j x, nd.after[j]? = some x → CellIs ⟨g, 0 + j * 1, none⟩ (.int .i64 x) w := fun hne => by
    have hp := List.length_pos_iff.2 hne
    cases A with
    | none => have := (hA1 rfl).1; omega
    | some ad =>
      obtain ⟨g, rfl⟩ := hA2 ad rfl
      exact ⟨g, rfl, fun E w r hw j x hx => aft_cell (l := SL.under h (engX e p S) :: runPtr c (ptr (p.fb id)) :: r) hR hnd hu hx w hw⟩
  refine At.seq ?_
  by_cases HW : s.state = 1
  ·
    refine At.region ?_
    refine L.ld rfl rfl rfl rfl ?_
    refine L.mv rfl rfl ?_
    refine L.op rfl (o_slice1 rfl rfl rfl rfl rfl rfl fun b5 => ?_)
    refine L.op rfl (o_call rfl rfl rfl hE (is_under [1] (some ⟨b5, 0, none⟩) 1 hR hs) ((Ent.sel2 (.tail (.tail (.head))) .head).trans (Ent.cons (ent_states (xs := [1]) (show 1 ≤ 9223372036854775807 by omega)))) ?_)
    rintro v m ⟨rfl, rfl⟩
    refine At.app1 ?_
    rw [show decide (s.state ∈ ([1] : List Int)) = true by simp [HW]]
    refine L.mv rfl rfl ?_
    refine L.on rfl rfl rfl (L.vala rfl (ev_load1 rfl rfl) (cellIs rfl) ?_)
    refine L.on rfl rfl rfl (L.vala rfl (ev_nil rfl) (fun _ _ => trivial) ?_)
    refine L.on rfl rfl rfl (L.vala rfl (ev_field (off := 0) rfl rfl) (fun _ _ => trivial) ?_)
    refine L.on rfl rfl rfl (L.vala rfl (ev_field (off := 1) rfl rfl) (fun _ _ => trivial) ?_)
    refine L.on rfl rfl rfl (L.vala rfl (ev_load1 (v := (p.ra id).nv R) rfl rfl) (run_cell hR rfl) ?_)
    refine L.on rfl rfl rfl (L.vala rfl (ev_move rfl) (fun _ _ => trivial) ?_)
    refine L.on rfl rfl rfl (L.vala rfl (ev_ixN (z := 7) rfl rfl rfl rfl hk) (fun _ _ => trivial) ?_)
    refine L.on rfl rfl rfl (L.vala rfl (ev_field (off := 6) rfl rfl) (fun _ _ => trivial) ?_)
    refine L.on rfl rfl rfl (L.vala rfl (ev_load1 (v := .slice A nd.after.length ca) rfl rfl) (fun w hw => node_row hR hnd hu w hw 6 _ rfl) ?_)
    refine L.on rfl rfl rfl (L.vala rfl (ev_func rfl rfl) (fun _ _ => trivial) ?_)
    refine L.on rfl rfl rfl (o_call rfl rfl rfl hE (containsFunc_does nd.after A ca 257 #[ptr c] (fun x => FK.isAt R.steps x.toNat 6 || FK.isAt R.steps x.toNat 7) (by omega) hcl rfl hcf) (Ent.refl _) ?_)
    rintro v m ⟨rfl, rfl⟩
    refine At.app2 ?_
    refine L.pure rfl (ev_pick rfl rfl rfl) ?_
    refine L.nil ?_
    refine At.then ?_
    refine At.cond rfl (fun c19 => ?_) (fun c19 => ?_)
    ·
      refine At.region ?_
      refine L.ld rfl rfl rfl rfl ?_
      refine L.nc rfl rfl ?_
      refine L.fa 3 rfl rfl rfl ?_
      refine L.val rfl (ev_load1 (v := (p.ra id).sv R) rfl rfl) (run_cell hR rfl) ?_
      refine L.mv rfl rfl ?_
      refine L.pure rfl (ev_ixN (z := 3) rfl rfl rfl rfl hkl) ?_
      refine L.fa 0 rfl rfl rfl ?_
      refine L.op rfl (o_stStepU (j := 0) (s' := { s with state := 7 }) .head hR hs rfl rfl rfl rfl (by omega) rfl rfl ?_)
      refine L.nil ?_
      exact At.end0 [SL.under h (engX e p (S.setR id { R with steps := FK.skipK R.fl.nodes R.steps k })), SL.under h (runPtr c (ptr (p.fb id)))] rfl ⟨rfl, rfl⟩ (by
        rw [hsk, if_pos ⟨HW, c19⟩]
        exact Ent.cons (Ent.inob hch))
    ·
      refine At.skip ?_
      exact At.end0 [SL.under h (engX e p (S.setR id { R with steps := FK.skipK R.fl.nodes R.steps k })), SL.under h (runPtr c (ptr (p.fb id)))] rfl ⟨rfl, rfl⟩ (by
        rw [hsk, if_neg (fun h => by rw [h.2] at c19; cases c19), hsame]
        exact Ent.cons (Ent.inob hch))
  ·
    refine At.region ?_
    refine L.ld rfl rfl rfl rfl ?_
    refine L.mv rfl rfl ?_
    refine L.op rfl (o_slice1 rfl rfl rfl rfl rfl rfl fun b5 => ?_)
    refine L.op rfl (o_call rfl rfl rfl hE (is_under [1] (some ⟨b5, 0, none⟩) 1 hR hs) ((Ent.sel2 (.tail (.tail (.head))) .head).trans (Ent.cons (ent_states (xs := [1]) (show 1 ≤ 9223372036854775807 by omega)))) ?_)
    rintro v m ⟨rfl, rfl⟩
    refine At.app1 ?_
    rw [show decide (s.state ∈ ([1] : List Int)) = false by simp [HW]]
    refine L.mv rfl rfl ?_
    refine L.off rfl rfl rfl rfl rfl rfl ?_
    refine L.off rfl rfl rfl rfl rfl rfl ?_
    refine L.off rfl rfl rfl rfl rfl rfl ?_
    refine L.off rfl rfl rfl rfl rfl rfl ?_
    refine L.off rfl rfl rfl rfl rfl rfl ?_
    refine L.off rfl rfl rfl rfl rfl rfl ?_
    refine L.off rfl rfl rfl rfl rfl rfl ?_
    refine L.off rfl rfl rfl rfl rfl rfl ?_
    refine L.off rfl rfl rfl rfl rfl rfl ?_
    refine L.off rfl rfl rfl rfl rfl rfl ?_
    refine L.off rfl rfl rfl rfl rfl rfl ?_
    refine L.pure rfl (ev_pick rfl rfl rfl) ?_
    refine L.nil ?_
    refine At.then ?_
    refine At.condF rfl ?_
    refine At.skip ?_
    exact At.end0 [SL.under h (engX e p (S.setR id { R with steps := FK.skipK R.fl.nodes R.steps k })), SL.under h (runPtr c (ptr (p.fb id)))] rfl ⟨rfl, rfl⟩ (by
      rw [hsk, if_neg (fun h => HW h.1), hsame]
      exact Ent.cons (Ent.inob hch))
end Go.Proofs.YtmeegfamopaljaaGreatDoor

namespace Go.Proofs.YtmeegfamopaljaaGreatDoor
open Go Go.RowKit
def restOf (ba ca ji k seed : Int) : Int := (if k ≤ 1 then ba else if k < 22 then min ca (ba * 2 ^ (k.toNat - 1)) else ca) + seed % (ji + 1)
theorem pow_le_21 (n : Nat) (h : n ≤ 21) : (1 : Int) ≤ 2 ^ n ∧ (2 : Int) ^ n ≤ 2097152 := by
  have : ∀ n : Fin 22, (1 : Int) ≤ 2 ^ n.val ∧ (2 : Int) ^ n.val ≤ 2097152 := by decide
  exact this ⟨n, by omega⟩
theorem wrap_shl {ba : Int} {n : Nat} (h1 : 1 ≤ ba) (h2 : ba ≤ 1048576) (hn : n ≤ 21) : wrap64 (ba * 2 ^ n) = ba * 2 ^ n ∧ 1 ≤ ba * 2 ^ n ∧ ba * 2 ^ n ≤ 2199023255552 := by
  have ⟨p1, p2⟩ := pow_le_21 n hn
  have l1 : 1 ≤ ba * 2 ^ n := by have := Int.mul_le_mul h1 p1 (by omega) (by omega); omega
  have l2 : ba * 2 ^ n ≤ 2199023255552 := by have := Int.mul_le_mul h2 p2 (by omega) (by omega); omega
  exact ⟨IntWalk.wrap64_in _ ⟨by omega, by omega⟩, l1, l2⟩
theorem seed_mod {seed ji : Int} (h4 : 0 ≤ ji) (h5 : ji ≤ 1048576) : 0 ≤ seed % (ji + 1) ∧ seed % (ji + 1) ≤ 1048576 := by
  have h1 := Int.emod_nonneg seed (show ji + 1 ≠ 0 by omega)
  have h2 := Int.emod_lt_of_pos seed (show 0 < ji + 1 by omega)
  omega
set_option maxHeartbeats 400000 in
theorem flow_Rest_calls (bu cl be ba ca ji : Int) (A : Option Addr) (n c : Nat) (k seed : Int) (w : World)
    (h1 : 1 ≤ ba) (h2 : ba ≤ ca) (h3 : ca ≤ 1048576) (h4 : 0 ≤ ji) (h5 : ji ≤ 1048576) (hs0 : 0 ≤ seed) (hs1 : seed < 18446744073709551616) :
    Calls Tryz.prog 136 #[.agg #[.int .i64 bu, .int .i64 cl, .int .i64 be, .int .i64 ba, .int .i64 ca, .int .i64 ji, .slice A n c], .int .i64 k, .int .u64 seed] w
      fun e w' => e = .returned (.int .i64 (restOf ba ca ji k seed)) ∧ Below w.heap.size w w' := by
  have hm := seed_mod (seed := seed) h4 h5
  have HW : Hid (wrap64 (seed % (ji + 1)) = seed % (ji + 1)) := IntWalk.wrap64_in _ ⟨by omega, by omega⟩
  by_cases hk1 : k ≤ 1
  · have HR : Hid (restOf ba ca ji k seed = ba + seed % (ji + 1)) := by unfold restOf; rw [if_pos hk1]; rfl
    clear hm
    go_enter Tryz.func136, Tryz.ntmps136
    go_wp2
    all_goals
      go_quiet (fail)
      go_wp2
      all_goals
        go_ret
        have hm := seed_mod (seed := seed) h4 h5
        refine ⟨ret_int ?_, (by repeat (first | assumption | exact Below.refl _ _ | refine below_drewN ?_ _ | refine Below.drew ?_ | refine Below.alloc ?_ (by first | omega | (simp; done) | (simp; omega)) _ | refine Below.setCell ?_ (by first | omega | (simp; done) | (simp; omega)) _))⟩
        rw [HR.out, HW.out]
        rw [IntWalk.wrap64_in _ ⟨by omega, by omega⟩]
        try omega
  · by_cases hk2 : k < 22
    · have hp := wrap_shl (n := k.toNat - 1) h1 (by omega) (by omega)
      have HP := Lib.hid hp
      have HR : Hid (restOf ba ca ji k seed = min ca (ba * 2 ^ (k.toNat - 1)) + seed % (ji + 1)) := by unfold restOf; rw [if_neg hk1, if_pos hk2]; rfl
      clear hm hp
      go_enter Tryz.func136, Tryz.ntmps136
      go_wp2
      go_quiet (fail)
      go_wp2
      all_goals
        go_ret
        have hm := seed_mod (seed := seed) h4 h5
        have hp := HP.out
        refine ⟨ret_int ?_, (by repeat (first | assumption | exact Below.refl _ _ | refine below_drewN ?_ _ | refine Below.drew ?_ | refine Below.alloc ?_ (by first | omega | (simp; done) | (simp; omega)) _ | refine Below.setCell ?_ (by first | omega | (simp; done) | (simp; omega)) _))⟩
        simp only [HR.out, HW.out, hp.1] at *
        rw [IntWalk.wrap64_in _ ⟨by omega, by omega⟩]
        try omega
    · have HR : Hid (restOf ba ca ji k seed = ca + seed % (ji + 1)) := by unfold restOf; rw [if_neg hk1, if_neg hk2]; rfl
      clear hm
      go_enter Tryz.func136, Tryz.ntmps136
      go_wp2
      go_ret
      have hm := seed_mod (seed := seed) h4 h5
      refine ⟨ret_int ?_, (Below.refl _ _).alloc (Nat.le_refl _) _⟩
      rw [HR.out, HW.out]
      rw [IntWalk.wrap64_in _ ⟨by omega, by omega⟩]
end Go.Proofs.YtmeegfamopaljaaGreatDoor

namespace Go.Proofs.YtmeegfamopaljaaGreatDoor
open Go Go.RowKit Go.SL
variable {G : Env → Prop}
theorem OwnNodes.nodesAtB {B : Nat} {w : World} {base : Nat} {A : Option Addr} {c : Nat} {l : List FK.Node} {vs : List Value} (h : OwnNodes w base (.slice A l.length c) l vs)
    (hlt : ∀ g, (Value.slice A l.length c).ownBlock = some g → g < B) (hlts : ∀ (i : Nat) (u : Value), vs[i]? = some u → ∀ g, u.ownBlock = some g → g < B) (hr : ∀ n ∈ l, (i64 n.budget ∧ i64 n.close ∧ i64 n.beat ∧ i64 n.base ∧ i64 n.cap ∧ i64 n.jitter) ∧ ∀ x ∈ n.after, i64 x) : NodesAt w B A c l := by
  have hrow := h.row
  rcases hrow.2 with ⟨he, h0⟩ | ⟨g, cap, cur, he, hb, hg, h1, h2, _⟩
  · injection he with _ _ hc
    subst hc
    exact ⟨by omega, by omega, fun hl => by omega⟩
  · injection he with hA _ hc
    subst hA; subst hc
    refine ⟨h1, by unfold maxLen at h2; omega, fun hl => ⟨g, 0, rfl, hlt _ rfl, fun i n hn => ?_⟩⟩
    obtain ⟨hi, _⟩ := List.getElem?_eq_some_iff.1 hn
    have hu : ∃ u, vs[i]? = some u := ⟨vs[i]'(by rw [h.len]; exact hi), by simp⟩
    obtain ⟨u, hu⟩ := hu
    have hint := h.ints i n u hn hu
    have hcell : ∀ j x, j < 7 → (nodeCells n u)[j]? = some x → w.cell? ⟨g, 0 + i * 7 + j, none⟩ = some x := fun j x hj hx => by
      have := hrow.cells (g := g) rfl (i * 7 + j) x (by rw [nodesV_at l vs i j n u h.len hn hu hj]; exact hx)
      have e : (⟨g, 0, none⟩ : Addr).add (i * 7 + j) = ⟨g, i * 7 + j, none⟩ := by unfold Addr.add; split <;> simp_all
      rw [e] at this
      rw [Nat.zero_add]; exact this
    obtain ⟨A6, c6, rfl, hA6, h6, h6'⟩ := own_form hint
    have hrn := hr n (List.mem_of_getElem? hn)
    refine ⟨hcell 0 _ (by omega) rfl, hcell 1 _ (by omega) rfl, hcell 2 _ (by omega) rfl, hcell 3 _ (by omega) rfl, hcell 4 _ (by omega) rfl, hcell 5 _ (by omega) rfl, ⟨A6, c6, hcell 6 _ (by omega) rfl, hrn.2, h6, by unfold maxLen at h6'; omega, fun hl => ?_⟩, hrn.1⟩
    rcases hint.2 with ⟨he, h0⟩ | ⟨g6, cap6, cur6, he, _⟩
    · omega
    · injection he with hA _ _
      subst hA
      refine ⟨g6, 0, rfl, hlts i _ hu _ rfl, fun j x hx => ?_⟩
      have := hint.cells (g := g6) rfl j (.int .i64 x) (by simp [intsV, hx])
      have e : (⟨g6, 0, none⟩ : Addr).add j = ⟨g6, j, none⟩ := by unfold Addr.add; split <;> simp_all
      rw [e] at this
      rw [Nat.zero_add]; exact this
theorem rest_does (nd : FK.Node) (A : Option Addr) (n c : Nat) (k : Int) (seed : Nat) (h1 : 1 ≤ nd.base) (h2 : nd.base ≤ nd.cap) (h3 : nd.cap ≤ 1048576) (h4 : 0 ≤ nd.jitter) (h5 : nd.jitter ≤ 1048576) (hs : seed < 18446744073709551616) : Does Tryz.prog G 136 [.agg (nodeCells nd (.slice A n c)).toArray, .int .i64 k, .int .u64 seed].toArray [] fun v m => v = .int .i64 (restOf nd.base nd.cap nd.jitter k seed) ∧ m = [] :=
  (Gives.of_calls (φ := fun _ => True) fun _ w _ _ _ => flow_Rest_calls nd.budget nd.close nd.beat nd.base nd.cap nd.jitter A n c k seed w h1 h2 h3 h4 h5 (by omega) (by omega)).does
theorem eng_nodes {e : Nat} {p : EA} {S : FK.En} {id n : Nat} {R : FK.Rn} {w : World} {F : Nat → Prop} (hR : S.getR id = some R) (h : (engX e p S).sat w F) (hF : ∀ k, F k → k < n) (hr : ∀ n ∈ R.fl.nodes, (i64 n.budget ∧ i64 n.close ∧ i64 n.beat ∧ i64 n.base ∧ i64 n.cap ∧ i64 n.jitter) ∧ ∀ x ∈ n.after, i64 x) : NodesAt w n (some ⟨(p.ra id).gn, 0, none⟩) (p.ra id).cn R.fl.nodes := by
  have h0 : Star w (engL e p S) F := h
  have h1 : Star w (runsL p S.runs) F := Star.mem (p := runsX p S.runs) h0 (by simp)
  have h2 : (runX (p.fb id) (p.ra id) R).sat w F := Star.mem h1 (List.mem_map.2 ⟨(id, R), getR_mem hR, rfl⟩)
  have h3 : Star w (runL (p.fb id) (p.ra id) R) F := h2
  have hlen : (p.ra id).vs.length = R.fl.nodes.length := Star.mem (p := HP.pure ((p.ra id).vs.length = R.fl.nodes.length)) h3 (by simp)
  have hrow := Star.mem (p := row 46 7 ((p.ra id).nv R) R.fl.nodes.length (nodesV R.fl.nodes (p.ra id).vs)) h3 (by simp)
  have hafts : Star w (aftsAt (p.ra id).vs R.fl.nodes) F := Star.mem (p := aftsAll (p.ra id).vs R.fl.nodes) h3 (by simp)
  have hint : ∀ (i : Nat) (nd : FK.Node) (u : Value), R.fl.nodes[i]? = some nd → (p.ra id).vs[i]? = some u → (intsAt u nd.after).sat w F := fun i nd u hi hu => by
    have hz : ((p.ra id).vs.zip R.fl.nodes)[i]? = some (u, nd) := by simp [List.getElem?_zip_eq_some, hi, hu]
    exact Star.mem hafts (List.mem_map.2 ⟨(u, nd), List.mem_of_getElem? hz, rfl⟩)
  have hown : OwnNodes w 0 ((p.ra id).nv R) R.fl.nodes (p.ra id).vs := ⟨hlen, hrow.1, fun i nd u hi hu => (hint i nd u hi hu).1⟩
  refine hown.nodesAtB (fun g hg => hF g (hrow.2 g hg)) (fun i u hu g hg => ?_) hr
  have hil : i < R.fl.nodes.length := by rw [← hlen]; exact (List.getElem?_eq_some_iff.1 hu).1
  exact hF g ((hint i R.fl.nodes[i] u (List.getElem?_eq_getElem hil) hu).2 g hg)
end Go.Proofs.YtmeegfamopaljaaGreatDoor
