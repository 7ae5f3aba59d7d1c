/- flowkeeperkeep's Fifo, walked. -/
import Derived.Test.YtmeegfamopaljaaGreatDoorFiAA
import Derived.Test.YtmeegfamopaljaaGreatDoorFiE
import Derived.Test.YtmeegfamopaljaaGreatDoorFiAB
namespace FK
theorem fifo_succ (i : Nat) : (fifoFlow (i + 1)).nodes = (fifoFlow i).nodes ++ [fifoNode i] := by
  unfold fifoFlow
  rw [List.range_succ, List.map_append]
  rfl
theorem fready_le (id : Nat) : ∀ m, (fready id m).length ≤ m := fun m => by
  unfold fready
  rw [List.length_map]
  exact Nat.le_trans (List.length_filter_le _ _) (by simp)
end FK
namespace Go.Proofs.YtmeegfamopaljaaGreatDoor
open Go Go.RowKit Go.SL
abbrev wL (p : FK.Pl) : List Value := taskL p.run p.node 1 0
def wV (q : List FK.Pl) : List Value := q.flatMap wL
theorem wV_snoc (q : List FK.Pl) (p : FK.Pl) : wV (q ++ [p]) = wV q ++ wL p := by
  unfold wV
  rw [List.flatMap_append]
  simp
theorem wV_at {q : List FK.Pl} {i : Nat} {p : FK.Pl} (h : q[i]? = some p) (j : Nat) (u : Value) (hu : (wL p)[j]? = some u) : (wV q)[i * 4 + j]? = some u := flatx_at (k := 4) (fun _ => rfl) j h hu
theorem qV_w {S : FK.En} : ∀ {q : List FK.Pl}, (∀ p ∈ q, S.tryOf p = 1) → qV S q = wV q
  | [], _ => rfl
  | p :: q, h => by
    have ih := qV_w (q := q) fun x hx => h x (.tail _ hx)
    unfold qV wV at ih ⊢
    rw [List.flatMap_cons, List.flatMap_cons, ih, h p (.head _)]
theorem fill_task1 (id : Nat) (j t : Int) (tok : Nat) (x : Nat) : Instr.fill (fun i => some (i * 4, 4)) (Array.map (fun x => (taskV 0 0 0 0).cells[x % (taskV 0 0 0 0).cells.size]!) (Array.range (1 * 4))) ((List.map (fun x => x.fst) [((0 : Nat), Operand.tmp x)]).zip [taskV id j t tok]) = some (taskL id j t tok).toArray := by
  have e1 : Array.range (1 * 4) = #[0, 1, 2, 3] := rfl
  rw [e1]
  simp [Instr.fill, Value.cells]
theorem fifo_snoc {v u : Value} {vs : List Value} {i : Nat} {b9 : HP} {r : List HP} (h : vs.length = (FK.fifoFlow i).nodes.length) :
    Ent (b9 :: row 46 7 v ((FK.fifoFlow i).nodes.length + 1) (nodesV (FK.fifoFlow i).nodes vs ++ nodeCells (FK.fifoNode i) u) :: intsAt u (FK.fifoNode i).after :: HP.all (aftsAt vs (FK.fifoFlow i).nodes) :: r) (b9 :: row 46 7 v (FK.fifoFlow (i + 1)).nodes.length (nodesV (FK.fifoFlow (i + 1)).nodes (vs ++ [u])) :: HP.all (aftsAt (vs ++ [u]) (FK.fifoFlow (i + 1)).nodes) :: r) := by
  rw [FK.fifo_succ, aftsAt_snoc h, nodesV_snoc _ vs _ u h, show ((FK.fifoFlow i).nodes ++ [FK.fifoNode i]).length = (FK.fifoFlow i).nodes.length + 1 by simp]
  refine Ent.cons (Ent.cons ?_)
  refine (Ent.sel (.tail .head)).trans ((Ent.unall).trans ?_)
  refine Ent.trans ?_ (Ent.all (m := aftsAt vs (FK.fifoFlow i).nodes ++ [intsAt u (FK.fifoNode i).after]))
  rw [List.append_assoc]
  exact Ent.refl _
theorem fifo_close {v : Value} {vs : List Value} {i : Nat} {r : List HP} (h : vs.length = (FK.fifoFlow i).nodes.length) : Ent (row 46 7 v (FK.fifoFlow i).nodes.length (nodesV (FK.fifoFlow i).nodes vs) :: HP.all (aftsAt vs (FK.fifoFlow i).nodes) :: r) (nodesOwn v (FK.fifoFlow i).nodes :: r) :=
  (Ent.cons Ent.unall).trans (nodesOwn.ent h)
theorem heldTask : Tryz.prog.stoodInHeld 55 = false := by kernel_rfl
theorem guardTask : Tryz.prog.eqGuardType Tryz.prog.depth 55 = false := by kernel_rfl
set_option maxRecDepth 20000 in
theorem eqTask (q : FK.Pl) : eqInts Tryz.prog (wL q).toArray (wL q).toArray (Tryz.prog.fieldsOf 55).toList = some true := by
  have : ∀ (a : Nat) (b c : Int) (t : Nat), eqInts Tryz.prog (taskL a b c t).toArray (taskL a b c t).toArray (Tryz.prog.fieldsOf 55).toList = some (((a : Int) == a) && ((b == b) && ((c == c) && (((t : Int) == t) && true)))) := fun a b c t => rfl
  rw [this]
  simp
theorem tmod7 (x : Int) : x.tmod 7 < 7 := Int.tmod_lt_of_pos x (by omega)
set_option maxRecDepth 20000 in
set_option maxHeartbeats 8000000 in
theorem fifo_gives {A1 A2 : Option Addr} {c1 c2 : Nat} (counts done : List Int) : Gives Tryz.prog Good 6 [.slice A1 counts.length c1, .slice A2 done.length c2].toArray (fun w => IntsAt w w.heap.size A1 c1 counts ∧ IntsAt w w.heap.size A2 c2 done) fun v m => v = .bool true ∧ m = [] := by
  refine Gives.body Tryz.func6 rfl rfl fun E w0 hE h0 hN => ?_
  obtain ⟨hC, hDn⟩ := hN
  refine At.seq ?_
  refine At.region ?_
  refine L.as rfl rfl ?_
  refine L.nil ?_
  refine At.then ?_
  refine At.seq ?_
  refine At.region ?_
  refine L.op rfl (o_call rfl rfl rfl hE opened_does (Ent.refl _) ?_)
  rintro v m ⟨h, f, e, j, d, p, σ, rfl, hD, rfl⟩
  refine At.app5 ?_
  refine L.as rfl rfl ?_
  refine L.nil ?_
  refine At.then ?_
  refine At.seq ?_
  refine At.region ?_
  refine L.op rfl (o_call rfl rfl rfl hE well_does (Ent.refl _) ?_)
  rintro v m ⟨rfl, rfl⟩
  refine At.app0 ?_
  refine L.op rfl (o_alloc (z := .agg #[.int .i64 0, .int .i64 0, .int .i64 0, .int .i64 0]) rfl rfl fun b6 => ?_)
  refine L.op rfl (o_storeN rfl (m := 4) (vs := fallL (-1) (-1) 0 0) rfl rfl rfl rfl (by simp [Value.oneCell']) (by show 0 + 4 ≤ 4; omega) ?_)
  refine At.blkAs b6 (fallL (-1) (-1) 0 0).toArray rfl ?_
  refine At.ent (l' := hostP h d f :: fkB f e j :: engX e p FK.o8 :: jrnlAt j d FK.J0 :: diskAt d σ :: blk b6 41 (fallL (-1) (-1) 0 0).toArray :: old E w0 :: []) Ent.auto ?_
  refine L.nil ?_
  refine At.then ?_
  refine At.seq ?_
  refine At.seq ?_
  refine At.region ?_
  refine L.mv rfl rfl ?_
  refine L.pure rfl (ev_eqlNilP rfl rfl rfl) ?_
  refine L.nil ?_
  refine At.then ?_
  refine At.condF rfl ?_
  refine At.skip ?_
  refine At.then ?_
  refine At.seq ?_
  refine At.region ?_
  refine L.as rfl rfl ?_
  refine L.nil ?_
  refine At.then ?_
  refine At.seq ?_
  refine At.seq ?_
  refine At.region ?_
  refine L.as rfl rfl ?_
  refine L.nil ?_
  refine At.then ?_
  refine At.block ?_
  refine At.loop (X := Nat × FK.En × FK.Dsk × EA × Value) (fun x => [(8, .int .i64 x.1), (7, x.2.2.2.2), (6, ptr b6), (5, ptr h), (1, .slice A2 done.length c2), (0, .slice A1 counts.length c1)]) (fun x => trow 55 4 x.2.2.2.2 (x.2.1.queue).length (wV (x.2.1.queue)) :: hostP h d f :: fkB f e j :: engX e x.2.2.2.1 x.2.1 :: jrnlAt j d FK.J0 :: diskAt d x.2.2.1 :: blk b6 41 (fallL (-1) (-1) 0 0).toArray :: old E w0 :: []) (fun x => x.1 ≤ 5 ∧ FK.FI x.1 (10 + 10 * x.1) x.2.1 ∧ FK.Dk (1000000 + 10000000 * x.1) x.2.2.1) (fun x => 5 - x.1) (0, FK.o8, σ, p, .slice none 0 0) ⟨by omega, FK.FI.start, hD⟩ ⟨rfl, rfl, rfl, rfl, rfl, rfl, trivial⟩ Ent.trow0 ?_
  rintro ⟨r, S, σ, p, wv⟩ ⟨hr, hI, hDk⟩
  replace hr : r ≤ 5 := hr
  replace hI : FK.FI r (10 + 10 * r) S := hI
  replace hDk : FK.Dk (1000000 + 10000000 * r) σ := hDk
  refine At.ent (l' := trow 55 4 wv (S.queue).length (wV (S.queue)) :: hostP h d f :: fkB f e j :: engX e p S :: jrnlAt j d FK.J0 :: diskAt d σ :: blk b6 41 (fallL (-1) (-1) 0 0).toArray :: old E w0 :: []) (Ent.refl _) ?_
  refine At.seq ?_
  refine At.seq ?_
  refine At.region ?_
  refine L.mv rfl rfl ?_
  refine L.mv rfl rfl ?_
  refine L.pure rfl (ev_lenS rfl rfl) ?_
  refine L.bool rfl (ev_lss rfl rfl rfl) (fun _ _ => trivial) fun c36 e36 => ?_
  refine L.mv rfl rfl ?_
  refine L.abs c36 (by rfl) ?_
  refine L.g rfl rfl (fun _ => rfl) (ev_move rfl) (fun _ _ => trivial) ?_
  refine L.abs c36 (by rfl) ?_
  refine L.g rfl rfl (fun _ => rfl) (ev_lss rfl rfl rfl) (fun _ _ => trivial) ?_
  refine L.bool rfl (ev_pickAnd rfl rfl rfl) (fun _ _ => trivial) fun c40 e40 => ?_
  refine L.nil ?_
  refine At.then ?_
  refine At.cond rfl (fun h40 => ?_) (fun h40 => ?_)
  ·
    have hb : r < counts.length ∧ r < 5 := by rw [e40, e36] at h40; simp at h40; omega
    obtain ⟨hbl, hr5⟩ := hb
    obtain ⟨cb, co, rfl, hcb, hcell⟩ := hC.cells (by omega)
    obtain ⟨x, hx⟩ : ∃ x, counts[r]? = some x := ⟨counts[r], by simp [hbl]⟩
    have hx64 := hC.rng x (List.mem_of_getElem? hx)
    refine At.skip ?_
    refine At.then ?_
    refine At.seq ?_
    refine At.block ?_
    refine At.seq ?_
    refine At.region ?_
    refine L.pure rfl (ev_build (ps := [(0, .const (.int .i64 100))]) (vs := [.int .i64 100]) (cs := #[.int .i64 100, .slice none 0 0]) rfl rfl rfl rfl rfl) ?_
    refine L.op rfl (o_alloc (z := .agg #[.int .i64 0, .slice none 0 0]) rfl rfl fun b9 => ?_)
    refine L.op rfl (o_storeN rfl (m := 2) (vs := [.int .i64 100, .slice none 0 0]) rfl rfl rfl rfl (by simp [Value.oneCell']) (by simp [Value.cells]) ?_)
    refine At.blkAs b9 #[.int .i64 100, .slice none 0 0] rfl ?_
    refine L.nil ?_
    refine At.then ?_
    refine At.seq ?_
    refine At.region ?_
    refine L.mv rfl rfl ?_
    refine L.mv rfl rfl ?_
    refine L.pure rfl (ev_ixN (z := 1) rfl rfl rfl rfl hbl) ?_
    refine L.val rfl (ev_load1 rfl rfl) (cellOld (.tail (.tail (.tail (.tail (.tail (.tail (.tail (.tail .head)))))))) h0 (by simpa using hcell r x hx)) ?_
    refine L.op rfl (o_call rfl rfl rfl hE (keep_pick x 12 hx64 (by omega) (by omega)) (Ent.refl _) ?_)
    rintro v m ⟨k, rfl, ⟨hk0, hk1⟩, rfl⟩
    refine At.app0 ?_
    obtain ⟨n, hn⟩ : ∃ n : Nat, (n : Int) = 1 + k := ⟨(1 + k).toNat, by omega⟩
    have hn1 : 1 ≤ n := by omega
    have hn12 : n ≤ 12 := by omega
    have hfit := FK.fifo_fit hn1 hn12
    refine L.pure rfl (ev_add (r := (n : Int)) rfl rfl (by rw [w64 (by omega)]; omega)) ?_
    refine L.as rfl rfl ?_
    refine L.nil ?_
    refine At.then ?_
    refine At.seq ?_
    refine At.seq ?_
    refine At.region ?_
    refine L.as rfl rfl ?_
    refine L.nil ?_
    refine At.then ?_
    refine At.block ?_
    refine At.loop (X := Nat × List Value × Value) (fun x => [(11, .int .i64 x.1), (10, .int .i64 n), (9, ptr b9), (8, .int .i64 r), (7, wv), (6, ptr b6), (5, ptr h), (1, .slice A2 done.length c2), (0, .slice (some ⟨cb, co, none⟩) counts.length c1)]) (fun x => blk b9 29 #[.int .i64 100, x.2.2] :: row 46 7 x.2.2 (FK.fifoFlow x.1).nodes.length (nodesV (FK.fifoFlow x.1).nodes x.2.1) :: HP.all (aftsAt x.2.1 (FK.fifoFlow x.1).nodes) :: trow 55 4 wv (S.queue).length (wV (S.queue)) :: hostP h d f :: fkB f e j :: engX e p S :: jrnlAt j d FK.J0 :: diskAt d σ :: blk b6 41 (fallL (-1) (-1) 0 0).toArray :: old E w0 :: []) (fun x => x.1 ≤ n ∧ x.2.1.length = (FK.fifoFlow x.1).nodes.length) (fun x => n - x.1) (0, [], .slice none 0 0) ⟨Nat.zero_le _, rfl⟩ ⟨rfl, rfl, rfl, rfl, rfl, rfl, rfl, rfl, rfl, trivial⟩ (Ent.cons ((Ent.all (m := [])).trans (Ent.row0 (e := 46) (size := 7)))) ?_
    rintro ⟨i, vs, v9⟩ ⟨hi, hvs⟩
    replace hi : i ≤ n := hi
    replace hvs : vs.length = (FK.fifoFlow i).nodes.length := hvs
    have hfl := FK.fifo_len i
    refine At.ent (l' := blk b9 29 #[.int .i64 100, v9] :: row 46 7 v9 (FK.fifoFlow i).nodes.length (nodesV (FK.fifoFlow i).nodes vs) :: HP.all (aftsAt vs (FK.fifoFlow i).nodes) :: trow 55 4 wv (S.queue).length (wV (S.queue)) :: hostP h d f :: fkB f e j :: engX e p S :: jrnlAt j d FK.J0 :: diskAt d σ :: blk b6 41 (fallL (-1) (-1) 0 0).toArray :: old E w0 :: []) (Ent.refl _) ?_
    refine At.seq ?_
    refine At.seq ?_
    refine At.region ?_
    refine L.mv rfl rfl ?_
    refine L.mv rfl rfl ?_
    refine L.pure rfl (ev_lss rfl rfl rfl) ?_
    refine L.nil ?_
    refine At.then ?_
    refine At.condD rfl (fun c52 => ?_) (fun c52 => ?_)
    ·
      have hlt : i < n := by have : (i : Int) < (n : Int) := c52; omega
      refine At.skip ?_
      refine At.then ?_
      refine At.seq ?_
      refine At.block ?_
      refine At.seq ?_
      refine At.region ?_
      refine L.pure rfl (ev_build (ps := [(0, .const (.int .i64 1)), (1, .const (.int .i64 50)), (3, .const (.int .i64 1)), (4, .const (.int .i64 1))]) (vs := [.int .i64 1, .int .i64 50, .int .i64 1, .int .i64 1]) (cs := (nodeCells ⟨1, 50, 0, 1, 1, 0, []⟩ (.slice none 0 0)).toArray) rfl rfl rfl rfl rfl) ?_
      refine L.op rfl (o_alloc (z := .agg #[.int .i64 0, .int .i64 0, .int .i64 0, .int .i64 0, .int .i64 0, .int .i64 0, .slice none 0 0]) rfl rfl fun b12 => ?_)
      refine L.op rfl (o_storeN rfl (m := 7) (vs := nodeCells ⟨1, 50, 0, 1, 1, 0, []⟩ (.slice none 0 0)) rfl rfl rfl rfl (by simp [nodeCells, Value.oneCell']) (by show 0 + 7 ≤ 7; omega) ?_)
      refine At.blkAs b12 (nodeCells ⟨1, 50, 0, 1, 1, 0, []⟩ (.slice none 0 0)).toArray rfl ?_
      refine L.nil ?_
      refine At.then ?_
      refine At.seq (At.cut (X := Value) (fun _ => [(12, ptr b12), (11, .int .i64 i), (10, .int .i64 n), (9, ptr b9), (8, .int .i64 r), (7, wv), (6, ptr b6), (5, ptr h), (1, .slice A2 done.length c2), (0, .slice (some ⟨cb, co, none⟩) counts.length c1)]) (fun u => blk b12 46 (nodeCells ⟨1, 50, 0, 1, 1, 0, []⟩ u).toArray :: intsAt u (FK.fifoNode i).after :: blk b9 29 #[.int .i64 100, v9] :: row 46 7 v9 (FK.fifoFlow i).nodes.length (nodesV (FK.fifoFlow i).nodes vs) :: HP.all (aftsAt vs (FK.fifoFlow i).nodes) :: trow 55 4 wv (S.queue).length (wV (S.queue)) :: hostP h d f :: fkB f e j :: engX e p S :: jrnlAt j d FK.J0 :: diskAt d σ :: blk b6 41 (fallL (-1) (-1) 0 0).toArray :: old E w0 :: []) (fun _ => True) ?_ ?_)
      ·
        refine At.seq ?_
        refine At.region ?_
        refine L.mv rfl rfl ?_
        refine L.pure rfl (ev_rem (r := ((i % 3 : Nat) : Int)) rfl rfl (by omega) (rem_nat (a := i) (b := 3) (by omega) (by omega))) ?_
        refine L.pure rfl (ev_eql rfl rfl rfl) ?_
        refine L.nil ?_
        refine At.then ?_
        refine At.condD rfl (fun c58 => ?_) (fun c58 => ?_)
        ·
          refine At.region ?_
          refine L.mv rfl rfl ?_
          refine L.pure rfl (ev_sub (r := ((i - 1 : Nat) : Int)) rfl rfl (by rw [w64 (by omega)]; omega)) ?_
          refine L.op rfl (o_slice1 (z := .int .i64 0) rfl rfl rfl rfl rfl rfl fun b61 => ?_)
          refine L.fa 6 rfl rfl rfl ?_
          refine L.st rfl rfl rfl rfl (by first | decide | simp | (simp; omega)) ?_
          refine L.nil ?_
          refine At.blkAs b12 (nodeCells ⟨1, 50, 0, 1, 1, 0, []⟩ (.slice (some ⟨b61, 0, none⟩) 1 1)).toArray rfl ?_
          have hi3 : i % 3 = 2 := by have : ((i % 3 : Nat) : Int) = 2 := c58; omega
          have haft : (FK.fifoNode i).after = [((i - 1 : Nat) : Int)] := by unfold FK.fifoNode; simp [hi3]
          refine At.meet (.slice (some ⟨b61, 0, none⟩) 1 1) trivial ⟨rfl, rfl, rfl, rfl, rfl, rfl, rfl, rfl, rfl, rfl, trivial⟩ ?_
          rw [haft]
          exact Ent.cons (ent_states (xs := [((i - 1 : Nat) : Int)]) (by simp [maxLen]))
        ·
          refine At.skip ?_
          have hi3 : ¬ i % 3 = 2 := by have : ¬ ((i % 3 : Nat) : Int) = 2 := c58; omega
          have haft : (FK.fifoNode i).after = [] := by unfold FK.fifoNode; simp [hi3]
          refine At.meet (.slice none 0 0) trivial ⟨rfl, rfl, rfl, rfl, rfl, rfl, rfl, rfl, rfl, rfl, trivial⟩ ?_
          rw [haft]
          exact Ent.cons Ent.row0
      rintro u -
      refine At.formRow (.tail .head) ?_
      rintro A8 c8 rfl - - - - -
      refine At.ent (l' := blk b12 46 (nodeCells (FK.fifoNode i) (.slice A8 (FK.fifoNode i).after.length c8)).toArray :: intsAt (.slice A8 (FK.fifoNode i).after.length c8) (FK.fifoNode i).after :: blk b9 29 #[.int .i64 100, v9] :: row 46 7 v9 (FK.fifoFlow i).nodes.length (nodesV (FK.fifoFlow i).nodes vs) :: HP.all (aftsAt vs (FK.fifoFlow i).nodes) :: trow 55 4 wv (S.queue).length (wV (S.queue)) :: hostP h d f :: fkB f e j :: engX e p S :: jrnlAt j d FK.J0 :: diskAt d σ :: blk b6 41 (fallL (-1) (-1) 0 0).toArray :: old E w0 :: []) (Ent.refl _) ?_
      refine At.region ?_
      refine L.fa 1 rfl rfl rfl ?_
      refine L.ld rfl rfl rfl rfl ?_
      refine L.val rfl (ev_loadN (vs := nodeCells (FK.fifoNode i) (.slice A8 (FK.fifoNode i).after.length c8)) rfl rfl rfl rfl) (rowAll rfl) ?_
      refine L.op rfl (o_slices (m := 1) (z := .agg #[.int .i64 0, .int .i64 0, .int .i64 0, .int .i64 0, .int .i64 0, .int .i64 0, .slice none 0 0]) (size := 7) (ps := [(0, .tmp 65)]) (vs := [.agg (nodeCells (FK.fifoNode i) (.slice A8 (FK.fifoNode i).after.length c8)).toArray]) (cs := (nodeCells (FK.fifoNode i) (.slice A8 (FK.fifoNode i).after.length c8)).toArray) rfl rfl rfl rfl (by omega) (by omega) rfl (fill_node _ _) fun b66 => ?_)
      refine L.op rfl (o_append rfl rfl infoNode rfl (by omega) rfl rfl (HasVal.sel (v := v9)) (news := nodeCells (FK.fifoNode i) (.slice A8 (FK.fifoNode i).after.length c8)) rfl (fun h => by cases h) (srcIs (fun j u h => by simpa using h)) (by simp [nodeCells, Value.oneCell']) (by unfold maxLen; omega) (by omega) fun v67 hv67 => ?_)
      refine At.formRow (HasVal.sel (v := v67)) ?_
      rintro A9 c9 rfl - - - - -
      refine L.fa 1 rfl rfl rfl ?_
      refine L.st rfl rfl rfl rfl (by first | decide | simp | (simp; omega)) ?_
      refine At.blkAs b9 #[.int .i64 100, .slice A9 ((FK.fifoFlow i).nodes.length + 1) c9] rfl ?_
      refine At.ent (l' := blk b9 29 #[.int .i64 100, .slice A9 ((FK.fifoFlow i).nodes.length + 1) c9] :: row 46 7 (.slice A9 ((FK.fifoFlow i).nodes.length + 1) c9) ((FK.fifoFlow i).nodes.length + 1) (nodesV (FK.fifoFlow i).nodes vs ++ nodeCells (FK.fifoNode i) (.slice A8 (FK.fifoNode i).after.length c8)) :: intsAt (.slice A8 (FK.fifoNode i).after.length c8) (FK.fifoNode i).after :: HP.all (aftsAt vs (FK.fifoFlow i).nodes) :: trow 55 4 wv (S.queue).length (wV (S.queue)) :: hostP h d f :: fkB f e j :: engX e p S :: jrnlAt j d FK.J0 :: diskAt d σ :: blk b6 41 (fallL (-1) (-1) 0 0).toArray :: old E w0 :: []) Ent.auto ?_
      refine L.nil ?_
      refine At.inBlock (At.then ?_)
      refine At.region ?_
      refine L.mv rfl rfl ?_
      refine L.pure rfl (ev_add (r := ((i + 1 : Nat) : Int)) rfl rfl (by rw [w64 (by omega)]; omega)) ?_
      refine L.as rfl rfl ?_
      refine L.nil ?_
      exact At.round (i + 1, vs ++ [.slice A8 (FK.fifoNode i).after.length c8], .slice A9 ((FK.fifoFlow i).nodes.length + 1) c9) ⟨hlt, by show (vs ++ [_]).length = _; rw [FK.fifo_succ, List.length_append, List.length_append, hvs]; rfl⟩ (by show n - (i + 1) < n - i; omega) ⟨rfl, rfl, rfl, rfl, rfl, rfl, rfl, rfl, rfl, trivial⟩ (fifo_snoc hvs)
    ·
      obtain rfl : i = n := by have : ¬ (i : Int) < (n : Int) := c52; omega
      refine At.formRow (HasVal.sel (v := v9)) ?_
      rintro A9 c9 rfl - - - - -
      refine At.ent (l' := nodesOwn (.slice A9 (FK.fifoFlow i).nodes.length c9) (FK.fifoFlow i).nodes :: blk b9 29 #[.int .i64 100, .slice A9 (FK.fifoFlow i).nodes.length c9] :: trow 55 4 wv (S.queue).length (wV (S.queue)) :: hostP h d f :: fkB f e j :: engX e p S :: jrnlAt j d FK.J0 :: diskAt d σ :: blk b6 41 (fallL (-1) (-1) 0 0).toArray :: old E w0 :: []) ((Ent.sel2 (.tail .head) (.tail .head)).trans (fifo_close hvs)) ?_
      refine At.exit ?_
      refine At.thenExit (At.roundExit (At.inBlockHit (At.then ?_)))
      refine At.seq ?_
      refine At.region ?_
      refine L.val rfl (ev_loadN (vs := [.int .i64 100, .slice A9 (FK.fifoFlow i).nodes.length c9]) rfl rfl rfl rfl) (rowAll rfl) ?_
      refine L.op rfl (o_give rfl rfl rfl hE (plain_encode 100 (FK.fifoFlow i).nodes A9 c9 (fit_fits hfit)) (nodesOwn.at .head (fit_small hfit)) ?_)
      rintro v m hv
      obtain ⟨bv, rfl, rfl⟩ : ∃ bv, v = .tuple #[bv, .int .i64 0, .int .i64 (-1)] ∧ m = [bytesAt bv (FK.encFlow (FK.fifoFlow i))] := by
        rcases hv with ⟨_, h⟩ | ⟨h, _⟩
        · exact h
        · exact absurd (by rw [show (⟨100, (FK.fifoFlow i).nodes⟩ : FK.Flow) = FK.fifoFlow i from rfl, hfit.chk]) h
      refine At.app1 ?_
      refine At.formRow .head ?_
      rintro A13 c13 rfl f1 f2 - - -
      obtain ⟨hreads, hnil⟩ := form_reads f1 f2
      refine At.ent (l' := hostP h d f :: fkB f e j :: engX e p S :: jrnlAt j d FK.J0 :: diskAt d σ :: bytesAt (.slice A13 (FK.encFlow (FK.fifoFlow i)).length c13) (FK.encFlow (FK.fifoFlow i)) :: trow 55 4 wv (S.queue).length (wV (S.queue)) :: blk b6 41 (fallL (-1) (-1) 0 0).toArray :: old E w0 :: []) Ent.auto ?_
      have hs1 := hI.sets
      have hs2 := hI.tok
      have hs3 := hI.ends
      have hs4 := hI.lastRun
      refine L.mv rfl rfl ?_
      refine L.ex rfl rfl rfl ?_
      refine L.ex rfl rfl rfl ?_
      refine L.ex rfl rfl rfl ?_
      refine L.as rfl rfl ?_
      refine L.as rfl rfl ?_
      refine L.as rfl rfl ?_
      refine L.nil ?_
      refine At.then ?_
      refine At.seq ?_
      refine At.region ?_
      refine L.mv rfl rfl ?_
      refine L.mv rfl rfl ?_
      refine L.val rfl (ev_loadN (vs := fallL (-1) (-1) 0 0) rfl rfl rfl rfl) (rowAll rfl) ?_
      refine L.op rfl (o_call rfl rfl rfl hE (hsubmit_does (h := h) (f := f) (e := e) (j := j) (d := d) (p := p) (J := FK.J0) (σ := σ) (bs := FK.encFlow (FK.fifoFlow i)) (fl := FK.fifoFlow i) hI.ok (by decide) rfl (dk_roomy hDk (by omega)) hDk.quiet hreads hnil (by have := hfit.encLen; omega) (FK.dec_enc hfit) hfit (hI.roomy hr5) (by omega) (by omega)) (Ent.refl _) ?_)
      rintro v m ⟨rfl, S0, p', hcut, rfl⟩
      refine At.app6 ?_
      have hS0 := hI.cut hr5 hcut
      rw [hS0]
      obtain ⟨hI1, hq1⟩ := hI.submit hr5 hn1 hn12
      obtain ⟨S1, hS1⟩ : ∃ S1, S1 = S.submit (FK.fifoFlow i) := ⟨_, rfl⟩
      rw [← hS1] at hI1 hq1 ⊢
      obtain ⟨σ1, hσ1⟩ : ∃ σ', σ' = σ.logs FK.J0.n (txt (FK.frame (1 :: FK.encFlow (FK.fifoFlow i)))) := ⟨_, rfl⟩
      rw [← hσ1]
      have hD1 : FK.Dk (1000000 + 10000000 * r + 100000) σ1 := hσ1 ▸ dk_submit hDk 0 hfit
      have hql := hI.ok.queueLe
      refine At.ent (l' := trow 55 4 wv (S.queue).length (wV (S.queue)) :: hostP h d f :: fkB f e j :: engX e p' S1 :: jrnlAt j d FK.J0 :: diskAt d σ1 :: blk b6 41 (fallL (-1) (-1) 0 0).toArray :: old E w0 :: []) Ent.auto ?_
      refine L.mv rfl rfl ?_
      refine L.ex rfl rfl rfl ?_
      refine L.ex rfl rfl rfl ?_
      refine L.ex rfl rfl rfl ?_
      refine L.as rfl rfl ?_
      refine L.as rfl rfl ?_
      refine L.as rfl rfl ?_
      refine L.nil ?_
      refine At.then ?_
      refine At.seq ?_
      refine At.seq ?_
      refine At.region ?_
      refine L.mv rfl rfl ?_
      refine L.pure rfl (ev_neq rfl rfl rfl) ?_
      refine L.mv rfl rfl ?_
      refine L.on rfl rfl rfl (L.vala rfl (ev_move rfl) (fun _ _ => trivial) ?_)
      refine L.on rfl rfl rfl (L.vala rfl (ev_neq rfl rfl rfl) (fun _ _ => trivial) ?_)
      refine L.pure rfl (ev_pick rfl rfl rfl) ?_
      refine L.nil ?_
      refine At.then ?_
      refine At.condF rfl ?_
      refine At.skip ?_
      refine At.then ?_
      refine At.seq ?_
      refine At.seq ?_
      refine At.region ?_
      refine L.as rfl rfl ?_
      refine L.nil ?_
      refine At.then ?_
      refine At.block ?_
      refine At.loop (X := Nat × Value) (fun x => [(19, .int .i64 x.1), (16, natV (S.lastRun + 1)), (10, .int .i64 i), (8, .int .i64 r), (7, x.2), (6, ptr b6), (5, ptr h), (1, .slice A2 done.length c2), (0, .slice (some ⟨cb, co, none⟩) counts.length c1)]) (fun x => trow 55 4 x.2 (S.queue ++ FK.fready (S.lastRun + 1) x.1).length (wV (S.queue ++ FK.fready (S.lastRun + 1) x.1)) :: hostP h d f :: fkB f e j :: engX e p' S1 :: jrnlAt j d FK.J0 :: diskAt d σ1 :: blk b6 41 (fallL (-1) (-1) 0 0).toArray :: old E w0 :: []) (fun x => x.1 ≤ i) (fun x => i - x.1) (0, wv) (Nat.zero_le _) ⟨rfl, rfl, rfl, rfl, rfl, rfl, rfl, rfl, rfl, trivial⟩ (by show Ent _ (trow 55 4 wv (S.queue ++ FK.fready (S.lastRun + 1) 0).length (wV (S.queue ++ FK.fready (S.lastRun + 1) 0)) :: hostP h d f :: fkB f e j :: engX e p' S1 :: jrnlAt j d FK.J0 :: diskAt d σ1 :: blk b6 41 (fallL (-1) (-1) 0 0).toArray :: old E w0 :: []); rw [show FK.fready (S.lastRun + 1) 0 = [] from rfl, List.append_nil]; exact Ent.refl _) ?_
      rintro ⟨a, y⟩ ha
      replace ha : a ≤ i := ha
      have hfr := FK.fready_le (S.lastRun + 1) a
      refine At.ent (l' := trow 55 4 y (S.queue ++ FK.fready (S.lastRun + 1) a).length (wV (S.queue ++ FK.fready (S.lastRun + 1) a)) :: hostP h d f :: fkB f e j :: engX e p' S1 :: jrnlAt j d FK.J0 :: diskAt d σ1 :: blk b6 41 (fallL (-1) (-1) 0 0).toArray :: old E w0 :: []) (Ent.refl _) ?_
      refine At.seq ?_
      refine At.seq ?_
      refine At.region ?_
      refine L.mv rfl rfl ?_
      refine L.mv rfl rfl ?_
      refine L.pure rfl (ev_lss rfl rfl rfl) ?_
      refine L.nil ?_
      refine At.then ?_
      refine At.condD rfl (fun c91 => ?_) (fun c91 => ?_)
      ·
        have hlt : a < i := by have : (a : Int) < (i : Int) := c91; omega
        refine At.skip ?_
        refine At.then ?_
        refine At.seq (At.cut (X := Value) (fun u => [(19, .int .i64 a), (16, natV (S.lastRun + 1)), (10, .int .i64 i), (8, .int .i64 r), (7, u), (6, ptr b6), (5, ptr h), (1, .slice A2 done.length c2), (0, .slice (some ⟨cb, co, none⟩) counts.length c1)]) (fun u => trow 55 4 u (S.queue ++ FK.fready (S.lastRun + 1) (a + 1)).length (wV (S.queue ++ FK.fready (S.lastRun + 1) (a + 1))) :: hostP h d f :: fkB f e j :: engX e p' S1 :: jrnlAt j d FK.J0 :: diskAt d σ1 :: blk b6 41 (fallL (-1) (-1) 0 0).toArray :: old E w0 :: []) (fun _ => True) ?_ ?_)
        ·
          refine At.block ?_
          refine At.seq ?_
          refine At.region ?_
          refine L.mv rfl rfl ?_
          refine L.pure rfl (ev_rem (r := ((a % 3 : Nat) : Int)) rfl rfl (by omega) (rem_nat (a := a) (b := 3) (by omega) (by omega))) ?_
          refine L.pure rfl (ev_neq rfl rfl rfl) ?_
          refine L.nil ?_
          refine At.then ?_
          refine At.condD rfl (fun c96 => ?_) (fun c96 => ?_)
          ·
            refine At.region ?_
            refine L.mv rfl rfl ?_
            refine L.mv rfl rfl ?_
            refine L.mv rfl rfl ?_
            refine L.pure rfl (ev_build (ps := [(0, .tmp 98), (1, .tmp 99), (2, .const (.int .i64 1))]) (vs := [natV (S.lastRun + 1), .int .i64 a, .int .i64 1]) (cs := (taskL (S.lastRun + 1) a 1 0).toArray) rfl rfl rfl rfl rfl) ?_
            refine L.op rfl (o_slices (m := 1) (z := taskV 0 0 0 0) (size := 4) (ps := [(0, .tmp 100)]) (vs := [taskV (S.lastRun + 1) a 1 0]) (cs := (taskL (S.lastRun + 1) a 1 0).toArray) rfl rfl rfl rfl (by omega) (by omega) rfl (fill_task1 _ _ _ _ 100) fun b101 => ?_)
            refine L.op rfl (o_appendT rfl rfl infoTask rfl (by omega) rfl rfl (.tail .head) (by omega) (news := taskL (S.lastRun + 1) a 1 0) rfl (srcIs (fun j u h => by simpa using h)) (by simp [Value.oneCell']) (by unfold maxLen; rw [List.length_append]; omega) (by rw [List.length_append]; omega) fun v102 => ?_)
            refine L.as rfl rfl ?_
            refine L.nil ?_
            refine At.inBlock ?_
            have ha3 : a % 3 ≠ 2 := by have : ((a % 3 : Nat) : Int) ≠ 2 := c96; omega
            refine At.meet v102 trivial ⟨rfl, rfl, rfl, rfl, rfl, rfl, rfl, rfl, rfl, trivial⟩ ?_
            rw [FK.fready_snoc ha3, ← List.append_assoc, wV_snoc, show ((S.queue ++ FK.fready (S.lastRun + 1) a) ++ [(⟨S.lastRun + 1, (a : Int), 0⟩ : FK.Pl)]).length = (S.queue ++ FK.fready (S.lastRun + 1) a).length + 1 from List.length_append]
            exact Ent.cons Ent.drop
          ·
            refine At.skip ?_
            refine At.inBlock ?_
            have ha3 : a % 3 = 2 := by have : ¬ ((a % 3 : Nat) : Int) ≠ 2 := c96; omega
            refine At.meet y trivial ⟨rfl, rfl, rfl, rfl, rfl, rfl, rfl, rfl, rfl, trivial⟩ ?_
            rw [FK.fready_skip ha3]
            exact Ent.refl _
        rintro u -
        refine At.region ?_
        refine L.mv rfl rfl ?_
        refine L.pure rfl (ev_add (r := ((a + 1 : Nat) : Int)) rfl rfl (by rw [w64 (by omega)]; omega)) ?_
        refine L.as rfl rfl ?_
        refine L.nil ?_
        exact At.round (a + 1, u) hlt (by show i - (a + 1) < i - a; omega) ⟨rfl, rfl, rfl, rfl, rfl, rfl, rfl, rfl, rfl, trivial⟩ (Ent.refl _)
      ·
        obtain rfl : a = i := by have : ¬ (a : Int) < (i : Int) := c91; omega
        rw [← hq1]
        refine At.formT .head ?_
        rintro Aw cw rfl g1 g2 g3
        refine At.ent (l' := hostP h d f :: fkB f e j :: engX e p' S1 :: jrnlAt j d FK.J0 :: diskAt d σ1 :: trow 55 4 (.slice Aw S1.queue.length cw) (S1.queue).length (wV (S1.queue)) :: blk b6 41 (fallL (-1) (-1) 0 0).toArray :: old E w0 :: []) Ent.auto ?_
        refine At.exit ?_
        refine At.thenExit (At.roundExit (At.inBlockHit (At.then ?_)))
        refine At.seq ?_
        refine At.region ?_
        refine L.mv rfl rfl ?_
        refine L.op rfl (o_call rfl rfl rfl hE (hqueue_does hI1.ok) (Ent.refl _) ?_)
        rintro v m rfl
        refine At.app6 ?_
        refine At.formRow .head ?_
        rintro A20 c20 rfl f3 f4 - - -
        rw [qV_w fun p hp => hI1.try hp]
        refine At.ent (l' := row 55 4 (.slice A20 S1.queue.length c20) S1.queue.length (wV S1.queue) :: trow 55 4 (.slice Aw S1.queue.length cw) (S1.queue).length (wV (S1.queue)) :: hostP h d f :: fkB f e j :: engX e p' S1 :: jrnlAt j d FK.J0 :: diskAt d σ1 :: blk b6 41 (fallL (-1) (-1) 0 0).toArray :: old E w0 :: []) Ent.auto ?_
        refine L.as rfl rfl ?_
        refine L.nil ?_
        refine At.then ?_
        refine At.seq ?_
        refine At.seq ?_
        refine At.region ?_
        refine L.mv rfl rfl ?_
        refine L.pure rfl (ev_lenS rfl rfl) ?_
        refine L.mv rfl rfl ?_
        refine L.pure rfl (ev_lenS rfl rfl) ?_
        refine L.pure rfl (ev_neq (r := false) rfl rfl (by simp)) ?_
        refine L.nil ?_
        refine At.then ?_
        refine At.condF rfl ?_
        refine At.skip ?_
        refine At.then ?_
        refine At.seq ?_
        refine At.seq ?_
        refine At.region ?_
        refine L.as rfl rfl ?_
        refine L.nil ?_
        refine At.then ?_
        refine At.block ?_
        refine At.loop (X := Nat) (fun a => [(21, .int .i64 a), (20, .slice A20 S1.queue.length c20), (8, .int .i64 r), (7, .slice Aw S1.queue.length cw), (6, ptr b6), (5, ptr h), (1, .slice A2 done.length c2), (0, .slice (some ⟨cb, co, none⟩) counts.length c1)]) (fun _ => row 55 4 (.slice A20 S1.queue.length c20) S1.queue.length (wV S1.queue) :: trow 55 4 (.slice Aw S1.queue.length cw) (S1.queue).length (wV (S1.queue)) :: hostP h d f :: fkB f e j :: engX e p' S1 :: jrnlAt j d FK.J0 :: diskAt d σ1 :: blk b6 41 (fallL (-1) (-1) 0 0).toArray :: old E w0 :: []) (fun a => a ≤ S1.queue.length) (fun a => S1.queue.length - a) 0 (Nat.zero_le _) ⟨rfl, rfl, rfl, rfl, rfl, rfl, rfl, rfl, trivial⟩ (Ent.refl _) ?_
        intro b hb
        have hql1 := hI1.ok.queueLe
        refine At.seq ?_
        refine At.seq ?_
        refine At.region ?_
        refine L.mv rfl rfl ?_
        refine L.mv rfl rfl ?_
        refine L.pure rfl (ev_lenS rfl rfl) ?_
        refine L.pure rfl (ev_lss rfl rfl rfl) ?_
        refine L.nil ?_
        refine At.then ?_
        refine At.condD rfl (fun c113 => ?_) (fun c113 => ?_)
        ·
          have hlt : b < S1.queue.length := by have : (b : Int) < (S1.queue.length : Int) := c113; omega
          obtain ⟨q, hq⟩ : ∃ q, S1.queue[b]? = some q := ⟨S1.queue[b], by simp [hlt]⟩
          obtain ⟨gq, rfl⟩ : ∃ g, A20 = some ⟨g, 0, none⟩ := by
            cases A20 with
            | none => have := (f3 rfl).1; omega
            | some ad => obtain ⟨g, rfl⟩ := f4 ad rfl; exact ⟨g, rfl⟩
          obtain ⟨gw, ow, rfl⟩ : ∃ g o, Aw = some ⟨g, o, none⟩ := by
            cases Aw with
            | none => have := (g1 rfl).1; omega
            | some ad => obtain ⟨g, o, rfl⟩ := g2 ad rfl; exact ⟨g, o, rfl⟩
          refine At.skip ?_
          refine At.then ?_
          refine At.seq ?_
          refine At.block ?_
          refine At.seq ?_
          refine Dr.start rfl ?_
          refine Dr.p 0 rfl rfl (by kernel_rfl) (ev_move rfl) ?_
          refine Dr.p 1 rfl rfl (by kernel_rfl) (ev_move rfl) ?_
          refine Dr.p 2 rfl rfl (by kernel_rfl) (ev_ixN (z := 4) rfl rfl rfl rfl hlt) ?_
          refine Dr.ld 3 rfl rfl (by kernel_rfl) (ev_loadN (vs := wL q) rfl rfl rfl rfl) (rowIn .head fun j u hj => by rw [Nat.zero_add]; exact wV_at hq j u hj) ?_
          refine Dr.p 4 rfl rfl (by kernel_rfl) (ev_move rfl) ?_
          refine Dr.p 5 rfl rfl (by kernel_rfl) (ev_move rfl) ?_
          refine Dr.p 6 rfl rfl (by kernel_rfl) (ev_ixN (z := 4) rfl rfl rfl rfl hlt) ?_
          refine Dr.ld 7 rfl rfl (by kernel_rfl) (ev_loadN (vs := wL q) rfl rfl rfl rfl) (trowIs (.tail .head) fun j u hj => wV_at hq j u hj) ?_
          refine Dr.p 8 rfl rfl (by kernel_rfl) (ev_neqStruct (r := false) rfl heldTask guardTask rfl rfl (eqTask q) rfl) ?_
          refine Dr.done (by kernel_rfl) ?_
          refine At.then ?_
          refine At.condF rfl ?_
          refine At.skip ?_
          refine At.inBlock (At.then ?_)
          refine At.region ?_
          refine L.mv rfl rfl ?_
          refine L.pure rfl (ev_add (r := ((b + 1 : Nat) : Int)) rfl rfl (by rw [w64 (by omega)]; omega)) ?_
          refine L.as rfl rfl ?_
          refine L.nil ?_
          exact At.round (b + 1) hlt (by show S1.queue.length - (b + 1) < S1.queue.length - b; omega) ⟨rfl, rfl, rfl, rfl, rfl, rfl, rfl, rfl, trivial⟩ (Ent.refl _)
        ·
          refine At.exit ?_
          refine At.thenExit (At.roundExit (At.inBlockHit (At.then ?_)))
          refine At.seq ?_
          refine At.region ?_
          refine L.as rfl rfl ?_
          refine L.nil ?_
          refine At.then ?_
          refine At.block ?_
          refine At.loop (X := Nat × FK.En × FK.Dsk × Value) (fun x => [(22, .int .i64 x.1), (8, .int .i64 r), (7, x.2.2.2), (6, ptr b6), (5, ptr h), (1, .slice A2 done.length c2), (0, .slice (some ⟨cb, co, none⟩) counts.length c1)]) (fun x => trow 55 4 x.2.2.2 (x.2.1.queue).length (wV (x.2.1.queue)) :: hostP h d f :: fkB f e j :: engX e p' x.2.1 :: jrnlAt j d FK.J0 :: diskAt d x.2.2.1 :: blk b6 41 (fallL (-1) (-1) 0 0).toArray :: old E w0 :: []) (fun x => x.1 ≤ 7 ∧ FK.FI (r + 1) (10 + 10 * r + 1 + x.1) x.2.1 ∧ FK.Dk (1000000 + 10000000 * r + 100000 + 1000000 * x.1) x.2.2.1) (fun x => 7 - x.1) (0, S1, σ1, .slice Aw S1.queue.length cw) ⟨by omega, hI1, hD1⟩ ⟨rfl, rfl, rfl, rfl, rfl, rfl, rfl, trivial⟩ Ent.drop ?_
          rintro ⟨t, V, τ, y⟩ ⟨ht, hIV, hDV⟩
          replace ht : t ≤ 7 := ht
          replace hIV : FK.FI (r + 1) (10 + 10 * r + 1 + t) V := hIV
          replace hDV : FK.Dk (1000000 + 10000000 * r + 100000 + 1000000 * t) τ := hDV
          have hv1 := hIV.sets
          have hv2 := hIV.tok
          have hv3 := hIV.ends
          have hqv := hIV.ok.queueLe
          refine At.ent (l' := trow 55 4 y (V.queue).length (wV (V.queue)) :: hostP h d f :: fkB f e j :: engX e p' V :: jrnlAt j d FK.J0 :: diskAt d τ :: blk b6 41 (fallL (-1) (-1) 0 0).toArray :: old E w0 :: []) (Ent.refl _) ?_
          refine At.formT .head ?_
          rintro Aw cw rfl g1 g2 g3
          refine At.ent (l' := trow 55 4 (.slice Aw V.queue.length cw) (V.queue).length (wV (V.queue)) :: hostP h d f :: fkB f e j :: engX e p' V :: jrnlAt j d FK.J0 :: diskAt d τ :: blk b6 41 (fallL (-1) (-1) 0 0).toArray :: old E w0 :: []) (Ent.refl _) ?_
          refine At.seq ?_
          refine At.seq ?_
          refine At.region ?_
          refine L.mv rfl rfl ?_
          refine L.mv rfl rfl ?_
          refine L.mv rfl rfl ?_
          refine L.op rfl (o_give rfl rfl rfl hE (keep_nth A2 c2 done r (by omega)) (intsLater (.tail (.tail (.tail (.tail (.tail (.tail (.tail .head))))))) h0 hDn (Nat.le_refl _)) ?_)
          rintro v m ⟨x, rfl, hx, rfl⟩
          refine At.app0 ?_
          refine L.pure rfl (ev_rem rfl rfl (by omega) rfl) ?_
          refine L.pure rfl (ev_lss rfl rfl rfl) ?_
          refine L.nil ?_
          refine At.then ?_
          refine At.condD rfl (fun c130 => ?_) (fun c130 => ?_)
          ·
            have ht7 : t < 7 := by have h7 := tmod7 x; have : (t : Int) < x.tmod 7 := c130; omega
            refine At.skip ?_
            refine At.then ?_
            refine At.seq ?_
            refine At.block ?_
            refine At.seq ?_
            by_cases HQ : V.queue = []
            ·
              refine At.ent (l' := hostP h d f :: fkB f e j :: engX e p' V :: jrnlAt j d FK.J0 :: diskAt d τ :: trow 55 4 (.slice Aw V.queue.length cw) (V.queue).length (wV (V.queue)) :: blk b6 41 (fallL (-1) (-1) 0 0).toArray :: old E w0 :: []) Ent.auto ?_
              refine At.region ?_
              refine L.mv rfl rfl ?_
              refine L.val rfl (ev_loadN (vs := fallL (-1) (-1) 0 0) rfl rfl rfl rfl) (rowAll rfl) ?_
              refine L.op rfl (o_call rfl rfl rfl hE (hpoll0_does hDV.quiet HQ) (Ent.refl _) ?_)
              rintro v m ⟨rfl, rfl⟩
              refine At.app5 ?_
              refine L.mv rfl rfl ?_
              refine L.ex rfl rfl rfl ?_
              refine L.ex rfl rfl rfl ?_
              refine L.ex rfl rfl rfl ?_
              refine L.op rfl (o_alloc (z := .agg #[.int .u64 0, .int .i64 0, .int .i64 0, .int .u64 0]) rfl rfl fun b23 => ?_)
              refine L.op rfl (o_storeN rfl (m := 4) (vs := taskL 0 0 0 0) rfl rfl rfl rfl (by simp [Value.oneCell']) (by show 0 + 4 ≤ 4; omega) ?_)
              refine L.as rfl rfl ?_
              refine L.as rfl rfl ?_
              refine L.nil ?_
              refine At.then ?_
              refine At.seq ?_
              refine At.seq ?_
              refine At.region ?_
              refine L.mv rfl rfl ?_
              refine L.pure rfl (ev_neq rfl rfl rfl) ?_
              refine L.mv rfl rfl ?_
              refine L.on rfl rfl rfl (L.vala rfl (ev_move rfl) (fun _ _ => trivial) ?_)
              refine L.on rfl rfl rfl (L.vala rfl (ev_move rfl) (fun _ _ => trivial) ?_)
              refine L.on rfl rfl rfl (L.vala rfl (ev_lenS rfl rfl) (fun _ _ => trivial) ?_)
              refine L.on rfl rfl rfl (L.vala rfl (ev_gtr (r := false) rfl rfl (by rw [HQ]; rfl)) (fun _ _ => trivial) ?_)
              refine L.on rfl rfl rfl (L.vala rfl (ev_neqB rfl rfl rfl rfl) (fun _ _ => trivial) ?_)
              refine L.pure rfl (ev_pick rfl rfl rfl) ?_
              refine L.nil ?_
              refine At.then ?_
              refine At.condF rfl ?_
              refine At.skip ?_
              refine At.then ?_
              refine At.seq ?_
              refine At.seq ?_
              refine At.region ?_
              refine L.mv rfl rfl ?_
              refine L.pure rfl (ev_not rfl rfl) ?_
              refine L.nil ?_
              refine At.then ?_
              refine At.condT rfl ?_
              refine At.exit ?_
              refine At.thenExit (At.inBlockMiss rfl (At.thenExit (At.roundExit (At.inBlockHit (At.inBlock (At.then ?_))))))
              refine At.region ?_
              refine L.mv rfl rfl ?_
              refine L.pure rfl (ev_add (r := ((r + 1 : Nat) : Int)) rfl rfl (by rw [w64 (by omega)]; omega)) ?_
              refine L.as rfl rfl ?_
              refine L.nil ?_
              refine At.round (r + 1, V, τ, p', .slice Aw V.queue.length cw) ⟨hr5, hIV.mono (by omega), ⟨hDV.quiet, by have := hDV.now; show FK.vol τ.now ≤ 1000000 + 10000000 * (r + 1); omega, by have := hDV.dur; show FK.vol τ.dur ≤ 1000000 + 10000000 * (r + 1); omega⟩⟩ (by show 5 - (r + 1) < 5 - r; omega) ⟨rfl, rfl, rfl, rfl, rfl, rfl, trivial⟩ ?_
              show Ent _ (trow 55 4 (.slice Aw V.queue.length cw) (V.queue).length (wV (V.queue)) :: hostP h d f :: fkB f e j :: engX e p' V :: jrnlAt j d FK.J0 :: diskAt d τ :: blk b6 41 (fallL (-1) (-1) 0 0).toArray :: old E w0 :: [])
              exact Ent.auto
            ·
              obtain ⟨hd, q, hq⟩ : ∃ hd q, V.queue = hd :: q := by
                cases hVq : V.queue with
                | nil => exact absurd hVq HQ
                | cons a b => exact ⟨a, b, rfl⟩
              obtain ⟨id, k2, n2, R, rfl, hR, hF, hs⟩ := hIV.head (p := hd) (by rw [hq]; exact .head _)
              obtain ⟨nd, -, hnd, hk2, hst, hIst⟩ := hIV.step hq hR hF
              obtain ⟨V1, hV1⟩ : ∃ V1, V1 = V.hand ⟨id, (k2 : Int), 0⟩ q R ⟨2, 0, 0⟩ nd := ⟨_, rfl⟩
              rw [← hV1] at hst hIst
              obtain ⟨V2, hV2⟩ : ∃ V2, V2 = V1.complete (V.lastToken + 1) := ⟨_, rfl⟩
              rw [← hV2] at hst hIst
              have hst1 := hst.sets1
              have hst2 := hst.ends1
              refine At.ent (l' := hostP h d f :: fkB f e j :: engX e p' V :: jrnlAt j d FK.J0 :: diskAt d τ :: trow 55 4 (.slice Aw V.queue.length cw) (V.queue).length (wV (V.queue)) :: blk b6 41 (fallL (-1) (-1) 0 0).toArray :: old E w0 :: []) Ent.auto ?_
              refine At.region ?_
              refine L.mv rfl rfl ?_
              refine L.val rfl (ev_loadN (vs := fallL (-1) (-1) 0 0) rfl rfl rfl rfl) (rowAll rfl) ?_
              refine L.op rfl (o_call rfl rfl rfl hE (hpoll1_does (J := FK.J0) hIV.ok (by decide) rfl (dk_roomy hDV (by omega)) hDV.quiet hq hR hs hnd (by omega) (by omega)) (Ent.refl _) ?_)
              rintro v m ⟨rfl, rfl⟩
              refine At.app5 ?_
              rw [← hV1]
              obtain ⟨τ1, hτ1⟩ : ∃ τ1, τ1 = noted τ FK.J0 2 0 := ⟨_, rfl⟩
              rw [← hτ1]
              have hDτ1 := hτ1 ▸ dk_noted hDV FK.J0 2 (n := 0) (by omega)
              replace hDτ1 : FK.Dk (1000000 + 10000000 * r + 100000 + 1000000 * t + 100000) τ1 := hDτ1
              refine L.mv rfl rfl ?_
              refine L.ex rfl rfl rfl ?_
              refine L.ex rfl rfl rfl ?_
              refine L.ex rfl rfl rfl ?_
              refine L.op rfl (o_alloc (z := .agg #[.int .u64 0, .int .i64 0, .int .i64 0, .int .u64 0]) rfl rfl fun b23 => ?_)
              refine L.op rfl (o_storeN rfl (m := 4) (vs := taskL id k2 1 (V.lastToken + 1)) rfl rfl rfl rfl (by simp [Value.oneCell']) (by show 0 + 4 ≤ 4; omega) ?_)
              refine At.blkAs b23 (taskL id k2 1 (V.lastToken + 1)).toArray rfl ?_
              refine L.as rfl rfl ?_
              refine L.as rfl rfl ?_
              refine L.nil ?_
              refine At.then ?_
              refine At.seq ?_
              refine At.seq ?_
              refine At.region ?_
              refine L.mv rfl rfl ?_
              refine L.pure rfl (ev_neq rfl rfl rfl) ?_
              refine L.mv rfl rfl ?_
              refine L.on rfl rfl rfl (L.vala rfl (ev_move rfl) (fun _ _ => trivial) ?_)
              refine L.on rfl rfl rfl (L.vala rfl (ev_move rfl) (fun _ _ => trivial) ?_)
              refine L.on rfl rfl rfl (L.vala rfl (ev_lenS rfl rfl) (fun _ _ => trivial) ?_)
              refine L.on rfl rfl rfl (L.vala rfl (ev_gtr (r := true) rfl rfl (by rw [hq]; simp)) (fun _ _ => trivial) ?_)
              refine L.on rfl rfl rfl (L.vala rfl (ev_neqB rfl rfl rfl rfl) (fun _ _ => trivial) ?_)
              refine L.pure rfl (ev_pick rfl rfl rfl) ?_
              refine L.nil ?_
              refine At.then ?_
              refine At.condF rfl ?_
              refine At.skip ?_
              refine At.then ?_
              refine At.seq ?_
              refine At.seq ?_
              refine At.region ?_
              refine L.mv rfl rfl ?_
              refine L.pure rfl (ev_not rfl rfl) ?_
              refine L.nil ?_
              refine At.then ?_
              refine At.condF rfl ?_
              refine At.skip ?_
              refine At.then ?_
              refine At.seq ?_
              obtain ⟨gw, ow, rfl⟩ : ∃ g o, Aw = some ⟨g, o, none⟩ := by
                cases Aw with
                | none => have := (g1 rfl).1; rw [hq] at this; cases this
                | some ad => obtain ⟨g, o, rfl⟩ := g2 ad rfl; exact ⟨g, o, rfl⟩
              have hlen0 : 0 < V.queue.length := by rw [hq]; simp
              refine At.region ?_
              refine L.mv rfl rfl ?_
              refine L.pure rfl (ev_ixN (z := 4) (i := 0) rfl rfl rfl rfl hlen0) ?_
              refine L.val rfl (ev_loadN (vs := wL ⟨id, (k2 : Int), 0⟩) rfl rfl rfl rfl) (trowIs (k := 0 * 4) (.tail (.tail (.tail (.tail (.tail (.tail .head)))))) fun j u hj => wV_at (by rw [hq]; rfl) j u hj) ?_
              refine L.op rfl (o_alloc (z := .agg #[.int .u64 0, .int .i64 0, .int .i64 0, .int .u64 0]) rfl rfl fun b26 => ?_)
              refine L.op rfl (o_storeN rfl (m := 4) (vs := wL ⟨id, (k2 : Int), 0⟩) rfl rfl rfl rfl (by simp [Value.oneCell']) (by show 0 + 4 ≤ 4; omega) ?_)
              refine At.blkAs b26 (wL ⟨id, (k2 : Int), 0⟩).toArray rfl ?_
              refine L.nil ?_
              refine At.then ?_
              refine At.seq ?_
              refine At.region ?_
              refine L.mv rfl rfl ?_
              refine L.pure rfl (ev_slice (z := 4) (a := 1) (b := V.queue.length) rfl rfl rfl ⟨_, rfl⟩ rfl (by omega) g3) ?_
              refine L.as rfl rfl ?_
              obtain ⟨y2, hy2⟩ : ∃ y2, y2 = Value.slice (if cw = 1 then some ⟨gw, ow, none⟩ else (some (⟨gw, ow, none⟩ : Addr)).map (·.add (1 * 4))) (V.queue.length - 1) (cw - 1) := ⟨_, rfl⟩
              refine At.ent (l' := trow 55 4 y2 q.length (wV q) :: blk b26 55 (wL ⟨id, (k2 : Int), 0⟩).toArray :: blk b23 55 (taskL id k2 1 (V.lastToken + 1)).toArray :: hostP h d f :: fkB f e j :: engX e p' V1 :: jrnlAt j d FK.J0 :: diskAt d τ1 :: blk b6 41 (fallL (-1) (-1) 0 0).toArray :: old E w0 :: []) ?_ ?_
              · refine (Ent.sel (p := trow 55 4 (.slice (some ⟨gw, ow, none⟩) V.queue.length cw) V.queue.length (wV V.queue)) (.tail (.tail (.tail (.tail (.tail (.tail (.tail .head)))))))).trans ?_
                have hlq : V.queue.length = q.length + 1 := by rw [hq]; rfl
                have hwq : wV V.queue = wL ⟨id, (k2 : Int), 0⟩ ++ wV q := by rw [hq]; rfl
                rw [hlq] at hy2 ⊢
                rw [hwq]
                refine Ent.cut1.trans ?_
                rw [hy2]
                show Ent (trow 55 4 _ q.length (wV q) :: _) _
                exact Ent.cons Ent.auto
              rw [← hy2]
              refine L.nil ?_
              refine At.then ?_
              refine At.seq ?_
              refine At.seq ?_
              refine At.region ?_
              refine L.fa 0 rfl rfl rfl ?_
              refine L.ld rfl rfl rfl rfl ?_
              refine L.fa 0 rfl rfl rfl ?_
              refine L.ld rfl rfl rfl rfl ?_
              refine L.pure rfl (ev_neq (r := false) rfl rfl (by simp)) ?_
              refine L.mv rfl rfl ?_
              refine L.on rfl rfl rfl (L.vala rfl (ev_field (off := 1) rfl rfl) (fun _ _ => trivial) ?_)
              refine L.on rfl rfl rfl (L.vala rfl (ev_load1 rfl rfl) (cellIs rfl) ?_)
              refine L.on rfl rfl rfl (L.vala rfl (ev_field (off := 1) rfl rfl) (fun _ _ => trivial) ?_)
              refine L.on rfl rfl rfl (L.vala rfl (ev_load1 rfl rfl) (cellIs rfl) ?_)
              refine L.on rfl rfl rfl (L.vala rfl (ev_neq (r := false) rfl rfl (by simp)) (fun _ _ => trivial) ?_)
              refine L.pure rfl (ev_pick rfl rfl rfl) ?_
              refine L.mv rfl rfl ?_
              refine L.on rfl rfl rfl (L.vala rfl (ev_field (off := 2) rfl rfl) (fun _ _ => trivial) ?_)
              refine L.on rfl rfl rfl (L.vala rfl (ev_load1 rfl rfl) (cellIs rfl) ?_)
              refine L.on rfl rfl rfl (L.vala rfl (ev_neq (r := false) rfl rfl (by simp)) (fun _ _ => trivial) ?_)
              refine L.pure rfl (ev_pick rfl rfl rfl) ?_
              refine L.nil ?_
              refine At.then ?_
              refine At.condF rfl ?_
              refine At.skip ?_
              refine At.then ?_
              refine At.seq ?_
              refine At.ent (l' := hostP h d f :: fkB f e j :: engX e p' V1 :: jrnlAt j d FK.J0 :: diskAt d τ1 :: trow 55 4 y2 q.length (wV q) :: blk b26 55 (wL ⟨id, (k2 : Int), 0⟩).toArray :: blk b23 55 (taskL id k2 1 (V.lastToken + 1)).toArray :: blk b6 41 (fallL (-1) (-1) 0 0).toArray :: old E w0 :: []) Ent.auto ?_
              refine At.region ?_
              refine L.mv rfl rfl ?_
              refine L.fa 3 rfl rfl rfl ?_
              refine L.ld rfl rfl rfl rfl ?_
              refine L.val rfl (ev_loadN (vs := fallL (-1) (-1) 0 0) rfl rfl rfl rfl) (rowAll rfl) ?_
              refine L.op rfl (o_call rfl rfl rfl hE (hcomplete_does (J := FK.J0) (t := V.lastToken + 1) hst.one (by omega) (by decide) rfl (dk_roomy hDτ1 (by omega)) hDτ1.quiet hst.task (by omega)) (Ent.refl _) ?_)
              rintro v m ⟨rfl, rfl⟩
              refine At.app5 ?_
              rw [← hV2]
              obtain ⟨τ2, hτ2⟩ : ∃ τ2, τ2 = noted τ1 FK.J0 4 (V.lastToken + 1) := ⟨_, rfl⟩
              rw [← hτ2]
              have hDτ2 := hτ2 ▸ dk_noted hDτ1 FK.J0 4 (n := V.lastToken + 1) (by omega)
              replace hDτ2 : FK.Dk (1000000 + 10000000 * r + 100000 + 1000000 * t + 100000 + 100000) τ2 := hDτ2
              have hDτ3 : FK.Dk (1000000 + 10000000 * r + 100000 + 1000000 * (t + 1)) τ2 := ⟨hDτ2.quiet, Nat.le_trans hDτ2.now (by omega), Nat.le_trans hDτ2.dur (by omega)⟩
              obtain ⟨R2, hR2, hF2⟩ := hst.run
              refine L.as rfl rfl ?_
              refine L.nil ?_
              refine At.then ?_
              refine At.seq ?_
              refine At.region ?_
              refine L.mv rfl rfl ?_
              refine L.fa 0 rfl rfl rfl ?_
              refine L.ld rfl rfl rfl rfl ?_
              refine L.op rfl (o_call rfl rfl rfl hE (hquery1_does hst.two hR2) (Ent.refl _) ?_)
              rintro v m ⟨A28, c28, A29, c29, rfl, rfl⟩
              refine At.app7 ?_
              refine L.mv rfl rfl ?_
              refine L.ex rfl rfl rfl ?_
              refine L.ex rfl rfl rfl ?_
              refine L.op rfl (o_alloc (z := .agg #[.int .u64 0, .int .i64 0, .slice none 0 0, .slice none 0 0]) rfl rfl fun b27 => ?_)
              refine L.op rfl (o_storeN rfl (m := 4) (vs := infoL id R2.state (.slice A28 R2.steps.length c28) (.slice A29 R2.steps.length c29)) rfl rfl rfl rfl (by simp [Value.oneCell']) (by show 0 + 4 ≤ 4; omega) ?_)
              refine At.blkAs b27 (infoL id R2.state (.slice A28 R2.steps.length c28) (.slice A29 R2.steps.length c29)).toArray rfl ?_
              refine At.ent (l' := trow 55 4 y2 q.length (wV q) :: blk b27 62 (infoL id R2.state (.slice A28 R2.steps.length c28) (.slice A29 R2.steps.length c29)).toArray :: blk b23 55 (taskL id k2 1 (V.lastToken + 1)).toArray :: hostP h d f :: fkB f e j :: engX e p' V2 :: jrnlAt j d FK.J0 :: diskAt d τ2 :: blk b6 41 (fallL (-1) (-1) 0 0).toArray :: old E w0 :: []) Ent.auto ?_
              have hF2l := hF2.len
              have hk12 := hIV.ok.run id R hR
              have hk12b := hk12.fl.head.2.2
              rw [hF.fl, FK.fifo_len] at hk12b
              refine L.as rfl rfl ?_
              refine L.nil ?_
              refine At.then ?_
              refine At.seq ?_
              refine At.seq ?_
              refine At.region ?_
              refine L.mv rfl rfl ?_
              refine L.pure rfl (ev_neq rfl rfl rfl) ?_
              refine L.nil ?_
              refine At.then ?_
              refine At.condF rfl ?_
              refine At.skip ?_
              refine At.then ?_
              refine At.seq ?_
              refine At.region ?_
              refine L.fa 1 rfl rfl rfl ?_
              refine L.ld rfl rfl rfl rfl ?_
              refine L.pure rfl (ev_rem (r := ((k2 % 3 : Nat) : Int)) rfl rfl (by omega) (rem_nat (a := k2) (b := 3) (by omega) (by omega))) ?_
              refine L.bool rfl (ev_eql rfl rfl rfl) (fun _ _ => trivial) fun c190 e190 => ?_
              refine L.mv rfl rfl ?_
              refine L.abs c190 (by rfl) ?_
              refine L.g rfl rfl (fun _ => rfl) (ev_field (off := 1) rfl rfl) (fun _ _ => trivial) ?_
              refine L.abs c190 (by rfl) ?_
              refine L.g rfl rfl (fun _ => rfl) (ev_load1 rfl rfl) (cellIs rfl) ?_
              refine L.abs c190 (by rfl) ?_
              refine L.g rfl rfl (fun _ => rfl) (ev_add (r := ((k2 + 1 : Nat) : Int)) rfl rfl (by rw [w64 (by omega)]; omega)) (fun _ _ => trivial) ?_
              refine L.abs c190 (by rfl) ?_
              refine L.g rfl rfl (fun _ => rfl) (ev_field (off := 2) rfl rfl) (fun _ _ => trivial) ?_
              refine L.abs c190 (by rfl) ?_
              refine L.g rfl rfl (fun _ => rfl) (ev_load1 rfl rfl) (cellIs rfl) ?_
              refine L.abs c190 (by rfl) ?_
              refine L.g rfl rfl (fun _ => rfl) (ev_lenS rfl rfl) (fun _ _ => trivial) ?_
              refine L.abs c190 (by rfl) ?_
              refine L.g rfl rfl (fun _ => rfl) (ev_lss rfl rfl rfl) (fun _ _ => trivial) ?_
              refine L.bool rfl (ev_pickAnd rfl rfl rfl) (fun _ _ => trivial) fun c199 e199 => ?_
              refine L.nil ?_
              refine At.then ?_
              refine At.cond rfl (fun h199 => ?_) (fun h199 => ?_)
              ·
                have hcn : k2 % 3 = 1 ∧ k2 + 1 < n2 := by
                  rw [e199, e190] at h199
                  simp at h199
                  omega
                have hqn : V2.queue = q ++ [⟨id, ((k2 + 1 : Nat) : Int), 0⟩] := by rw [hst.queue]; unfold FK.fnext; rw [if_pos hcn]
                have hqlen : q.length ≤ 72 := by rw [hq] at hqv; simp at hqv; omega
                refine At.region ?_
                refine L.mv rfl rfl ?_
                refine L.fa 0 rfl rfl rfl ?_
                refine L.ld rfl rfl rfl rfl ?_
                refine L.fa 1 rfl rfl rfl ?_
                refine L.ld rfl rfl rfl rfl ?_
                refine L.pure rfl (ev_add (r := ((k2 + 1 : Nat) : Int)) rfl rfl (by rw [w64 (by omega)]; omega)) ?_
                refine L.pure rfl (ev_build (ps := [(0, .tmp 202), (1, .tmp 205), (2, .const (.int .i64 1))]) (vs := [natV id, .int .i64 ((k2 + 1 : Nat) : Int), .int .i64 1]) (cs := (taskL id ((k2 + 1 : Nat) : Int) 1 0).toArray) rfl rfl rfl rfl rfl) ?_
                refine L.op rfl (o_slices (m := 1) (z := taskV 0 0 0 0) (size := 4) (ps := [(0, .tmp 206)]) (vs := [taskV id ((k2 + 1 : Nat) : Int) 1 0]) (cs := (taskL id ((k2 + 1 : Nat) : Int) 1 0).toArray) rfl rfl rfl rfl (by omega) (by omega) rfl (fill_task1 _ _ _ _ 206) fun b207 => ?_)
                refine L.op rfl (o_appendT rfl rfl infoTask rfl (by omega) rfl rfl (.tail .head) (by omega) (news := taskL id ((k2 + 1 : Nat) : Int) 1 0) rfl (srcIs (fun j u h => by simpa using h)) (by simp [Value.oneCell']) (by unfold maxLen; omega) (by omega) fun v208 => ?_)
                refine L.as rfl rfl ?_
                refine L.nil ?_
                refine At.inBlock (At.then ?_)
                refine At.region ?_
                refine L.mv rfl rfl ?_
                refine L.pure rfl (ev_add (r := ((t + 1 : Nat) : Int)) rfl rfl (by rw [w64 (by omega)]; omega)) ?_
                refine L.as rfl rfl ?_
                refine L.nil ?_
                refine At.round (t + 1, V2, τ2, v208) ⟨ht7, hIst.mono (by omega), hDτ3⟩ (by show 7 - (t + 1) < 7 - t; omega) ⟨rfl, rfl, rfl, rfl, rfl, rfl, rfl, trivial⟩ ?_
                show Ent _ (trow 55 4 v208 (V2.queue).length (wV (V2.queue)) :: hostP h d f :: fkB f e j :: engX e p' V2 :: jrnlAt j d FK.J0 :: diskAt d τ2 :: blk b6 41 (fallL (-1) (-1) 0 0).toArray :: old E w0 :: [])
                rw [hqn, wV_snoc, show (q ++ [(⟨id, ((k2 + 1 : Nat) : Int), 0⟩ : FK.Pl)]).length = q.length + 1 by simp]
                exact Ent.auto
              ·
                have hcn : ¬ (k2 % 3 = 1 ∧ k2 + 1 < n2) := by
                  rw [e199, e190] at h199
                  simp at h199
                  rintro ⟨ha, hb⟩
                  have := h199 (by omega)
                  omega
                have hqn : V2.queue = q := by rw [hst.queue]; unfold FK.fnext; rw [if_neg hcn, List.append_nil]
                refine At.skip ?_
                refine At.inBlock (At.then ?_)
                refine At.region ?_
                refine L.mv rfl rfl ?_
                refine L.pure rfl (ev_add (r := ((t + 1 : Nat) : Int)) rfl rfl (by rw [w64 (by omega)]; omega)) ?_
                refine L.as rfl rfl ?_
                refine L.nil ?_
                refine At.round (t + 1, V2, τ2, y2) ⟨ht7, hIst.mono (by omega), hDτ3⟩ (by show 7 - (t + 1) < 7 - t; omega) ⟨rfl, rfl, rfl, rfl, rfl, rfl, rfl, trivial⟩ ?_
                show Ent _ (trow 55 4 y2 (V2.queue).length (wV (V2.queue)) :: hostP h d f :: fkB f e j :: engX e p' V2 :: jrnlAt j d FK.J0 :: diskAt d τ2 :: blk b6 41 (fallL (-1) (-1) 0 0).toArray :: old E w0 :: [])
                rw [hqn]
                exact Ent.auto
          ·
            refine At.exit ?_
            refine At.thenExit (At.roundExit (At.inBlockHit (At.inBlock (At.then ?_))))
            refine At.region ?_
            refine L.mv rfl rfl ?_
            refine L.pure rfl (ev_add (r := ((r + 1 : Nat) : Int)) rfl rfl (by rw [w64 (by omega)]; omega)) ?_
            refine L.as rfl rfl ?_
            refine L.nil ?_
            refine At.round (r + 1, V, τ, p', .slice Aw V.queue.length cw) ⟨hr5, hIV.mono (by omega), ⟨hDV.quiet, by have := hDV.now; show FK.vol τ.now ≤ 1000000 + 10000000 * (r + 1); omega, by have := hDV.dur; show FK.vol τ.dur ≤ 1000000 + 10000000 * (r + 1); omega⟩⟩ (by show 5 - (r + 1) < 5 - r; omega) ⟨rfl, rfl, rfl, rfl, rfl, rfl, trivial⟩ ?_
            show Ent _ (trow 55 4 (.slice Aw V.queue.length cw) (V.queue).length (wV (V.queue)) :: hostP h d f :: fkB f e j :: engX e p' V :: jrnlAt j d FK.J0 :: diskAt d τ :: blk b6 41 (fallL (-1) (-1) 0 0).toArray :: old E w0 :: [])
            exact Ent.auto
  ·
    refine At.exit ?_
    refine At.thenExit (At.roundExit (At.inBlockHit (At.then ?_)))
    refine At.seq ?_
    refine At.region ?_
    refine L.as rfl rfl ?_
    refine L.nil ?_
    refine At.then ?_
    refine At.ret ?_
    refine At.ret1 [] rfl rfl ⟨rfl, rfl⟩ ?_
    show Ent _ [old E w0]
    exact Ent.auto
end Go.Proofs.YtmeegfamopaljaaGreatDoor
