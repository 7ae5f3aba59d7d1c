/- The engine's settle, finish; the ring's Keep. -/
import Derived.Test.YtmeegfamopaljaaGreatDoorFiP
namespace FK
theorem filter_snoc {q : List Pl} {x : Pl} (id : Nat) : (q ++ [x]).filter (fun p => p.run != id) = q.filter (fun p => p.run != id) ++ if x.run != id then [x] else [] := by
  rw [List.filter_append]
  simp [List.filter_cons]
end FK
namespace Go.Proofs.YtmeegfamopaljaaGreatDoor
open Go Go.RowKit Go.SL
variable {G : Env → Prop}
theorem neI (a b : Nat) : (a != b) = decide ((a : Int) ≠ (b : Int)) := by
  by_cases h : a = b
  · subst h; simp
  · rw [decide_eq_true (by omega)]; simpa using h
set_option maxRecDepth 10000 in
theorem finish1_does (c id : Nat) (q : FK.Pl) : Does Tryz.prog G 259 [plV q, ptr c].toArray [blk c 51 #[natV id]] fun v m => v = .bool (q.run != id) ∧ m = [blk c 51 #[natV id]] := by
  refine Does.body Tryz.func259 rfl rfl fun E fr hE => ?_
  refine At.app1 ?_
  refine At.seq ?_
  refine At.region ?_
  refine L.op rfl (o_box rfl rfl fun b2 => ?_)
  refine L.as rfl rfl ?_
  refine L.nil ?_
  refine At.then ?_
  refine At.seq ?_
  refine At.region ?_
  refine L.fa 0 rfl rfl rfl ?_
  refine L.ld rfl rfl rfl rfl ?_
  refine L.ld rfl rfl rfl rfl ?_
  refine L.pure rfl (ev_neq rfl rfl rfl) ?_
  refine L.as rfl rfl ?_
  refine L.nil ?_
  refine At.then ?_
  refine At.ret ?_
  exact At.ret1 [_] rfl rfl ⟨by rw [neI], rfl⟩ Ent.drop
theorem ring_n {E : Env} {l r : List HP} {e : Nat} {C : EC} {q : List FK.Pl} (s : Sel (ringE e C q) l r) : ∀ w, Holds E w l → CellIs ⟨e, 5, none⟩ (.int .i64 q.length) w := fun w hw => by
  obtain ⟨F1, _, _, _, _, hp, _⟩ := (hw.sel s).star
  obtain ⟨⟨rv, N, f, rg⟩, h1⟩ := hp
  have h2 : (engB e C rv f q.length).sat w F1 := Star.mem (l := [HP.pure (FK.RingOk N f q rg), engB e C rv f q.length, row 268 3 rv N (rV N rg)]) h1 (by simp)
  have := h2.2
  simp only [CellIs, World.cell?, this]
  rfl
set_option maxRecDepth 10000 in
theorem keep_does {q : List FK.Pl} (e : Nat) (C : EC) (c id : Nat) (hq : q.length ≤ 400) : Does Tryz.prog G 258 [rptr e, .func (.func 259) #[] #[ptr c]].toArray [ringE e C q, blk c 51 #[natV id]] fun v m => v = .tuple #[] ∧ m = [ringE e C (q.filter fun p => p.run != id)] := by
  refine Does.body Tryz.func258 rfl rfl fun E fr hE => ?_
  refine At.app2 ?_
  refine At.seq ?_
  refine At.region ?_
  refine L.mv rfl rfl ?_
  refine L.nc rfl rfl ?_
  refine L.fa 2 rfl rfl rfl ?_
  refine L.val rfl (ev_load1 (v := .int .i64 q.length) rfl rfl) (ring_n .head) ?_
  refine L.as rfl rfl ?_
  refine L.nil ?_
  refine At.then ?_
  refine At.block ?_
  refine At.loop (X := List FK.Pl × List FK.Pl) (fun x => [(4, .int .i64 x.2.length), (0, rptr e), (1, .func (.func 259) #[] #[ptr c])]) (fun x => ringE e C (x.2 ++ x.1.filter fun p => p.run != id) :: blk c 51 #[natV id] :: fr) (fun x => x.1 ++ x.2 = q) (fun x => x.2.length) ([], q) rfl ⟨rfl, rfl, rfl, trivial⟩ (by
   show Ent _ (ringE e C (q ++ []) :: _)
   rw [List.append_nil]
   exact Ent.refl _) ?_
  rintro ⟨done, left⟩ hdl
  simp only at hdl ⊢
  refine At.seq ?_
  refine At.seq ?_
  refine At.region ?_
  refine L.mv rfl rfl ?_
  refine L.pure rfl (ev_gtr rfl rfl rfl) ?_
  refine L.nil ?_
  refine At.then ?_
  refine At.condD rfl (fun c12 => ?_) (fun c12 => ?_)
  ·
    obtain ⟨x, left, rfl⟩ : ∃ x l, left = x :: l := by
      cases left with
      | nil => simp at c12
      | cons x l => exact ⟨x, l, rfl⟩
    have hln : done.length + (left.length + 1) = q.length := by rw [← hdl]; simp
    have hfl := List.length_filter_le (fun p : FK.Pl => p.run != id) done
    refine At.skip ?_
    refine At.then ?_
    refine At.seq ?_
    refine At.block ?_
    refine At.seq ?_
    refine At.region ?_
    refine L.mv rfl rfl ?_
    refine L.op rfl (o_call rfl rfl rfl hE (rpop_some e C) (Ent.refl _) ?_)
    rintro v m ⟨rfl, rfl⟩
    refine At.app1 ?_
    refine L.mv rfl rfl ?_
    refine L.ex rfl rfl rfl ?_
    refine L.ex rfl rfl rfl ?_
    refine L.op rfl (o_alloc (z := .agg #[.int .u64 0, .int .i64 0, .int .i64 0]) rfl rfl fun b5 => ?_)
    refine L.op rfl (o_storeN (vs := plL x) rfl (m := 3) rfl rfl rfl rfl (by simp [Value.oneCell']) (by show 0 + 3 ≤ 3; omega) ?_)
    refine At.ent (l' := blk b5 268 (plL x).toArray :: ringE e C (left ++ done.filter fun p => p.run != id) :: blk c 51 #[natV id] :: fr) (Ent.refl _) ?_
    refine L.as rfl rfl ?_
    refine L.nil ?_
    refine At.then ?_
    refine At.seq ?_
    refine At.region ?_
    refine L.mv rfl rfl ?_
    refine L.val rfl (ev_loadN (vs := plL x) rfl rfl rfl rfl) (rowAll rfl) ?_
    refine L.op rfl (o_callV rfl rfl rfl rfl hE (finish1_does c id x) (Ent.sel (.tail (.tail (.head)))) ?_)
    rintro v m ⟨rfl, rfl⟩
    refine At.app1 ?_
    refine L.nil ?_
    refine At.then ?_
    refine At.cond rfl (fun c22 => ?_) (fun c22 => ?_)
    ·
      refine At.region ?_
      refine L.mv rfl rfl ?_
      refine L.val rfl (ev_loadN (vs := plL x) rfl rfl rfl rfl) (rowAll rfl) ?_
      refine L.op rfl (o_call rfl rfl rfl hE (rpush_does e C x (by rw [List.length_append]; omega)) (Ent.sel (.tail (.tail (.head)))) ?_)
      rintro v m ⟨rfl, rfl⟩
      refine At.app1 ?_
      refine L.nil ?_
      refine At.inBlock (At.then ?_)
      refine At.region ?_
      refine L.mv rfl rfl ?_
      refine L.pure rfl (ev_sub (r := (left.length : Int)) rfl rfl (by rw [w64 (by simp; omega)]; simp)) ?_
      refine L.as rfl rfl ?_
      refine L.nil ?_
      exact At.round (done ++ [x], left) (by rw [← hdl]; simp) (by simp) ⟨rfl, rfl, rfl, trivial⟩ (by
        show Ent _ (ringE e C (left ++ (done ++ [x]).filter fun p => p.run != id) :: _)
        rw [FK.filter_snoc, if_pos c22, ← List.append_assoc]
        exact Ent.cons (Ent.cons Ent.drop))
    ·
      refine At.skip ?_
      refine At.inBlock (At.then ?_)
      refine At.region ?_
      refine L.mv rfl rfl ?_
      refine L.pure rfl (ev_sub (r := (left.length : Int)) rfl rfl (by rw [w64 (by simp; omega)]; simp)) ?_
      refine L.as rfl rfl ?_
      refine L.nil ?_
      exact At.round (done ++ [x], left) (by rw [← hdl]; simp) (by simp) ⟨rfl, rfl, rfl, trivial⟩ (by
        show Ent _ (ringE e C (left ++ (done ++ [x]).filter fun p => p.run != id) :: _)
        rw [FK.filter_snoc, if_neg (by simp [c22]), List.append_nil]
        exact (Ent.sel (.tail (.tail .head))).trans (Ent.cons (Ent.cons Ent.drop)))
  ·
    obtain rfl : left = [] := by
      cases left with
      | nil => rfl
      | cons x l => simp at c12
    rw [List.append_nil] at hdl
    subst hdl
    refine At.exit ?_
    refine At.thenExit (At.roundExit (At.inBlockHit ?_))
    exact At.end0 [_] rfl ⟨rfl, rfl⟩ (Ent.cons Ent.drop)
theorem keep_eng {e : Nat} {p : EA} {S : FK.En} (c id : Nat) (hq : S.queue.length ≤ 400) : Does Tryz.prog G 258 [rptr e, .func (.func 259) #[] #[ptr c]].toArray [engX e p S, blk c 51 #[natV id]] fun v m => v = .tuple #[] ∧ m = [engX e p { S with queue := S.queue.filter fun p => p.run != id }] := by
  refine Does.part (c := [HP.pure (EngOk S), vmap natV p.rm (runM S p), runsX p S.runs, vmap natV p.tm (taskM S), wheelE p.w S.now S.sets S.tms]) (keep_does e (ecOf S p) c id hq) ?_ ?_
  · refine (Ent.unall (m := engL e p S)).trans ((Ent.sel2 (.tail .head) (.tail (.tail (.tail (.tail (.tail .head)))))).trans ?_)
    exact Ent.refl _
  · rintro v m ⟨rfl, rfl⟩
    exact ⟨_, ⟨rfl, rfl⟩, (Ent.sel (.tail .head)).trans (Ent.all (m := engL e p { S with queue := S.queue.filter fun p => p.run != id }))⟩
section
variable {P : Program} {E : Env} {n : Nat} {D : List Deferred} {ts : List (Nat × Value)} {l : List HP} {Q : Exit → Act → World → Prop} {i : Nat} {ty : TypeId} {pos : String} {af : Array Edge} {g : Option (Nat × Bool)}
theorem o_slice2 {t e : TypeId} {z : Value} {x y : Operand} {v u : Value} {K : Act → World → Prop} (hi : Nat.blt i n = true) (ht : P.underlying t = some (.slice e)) (hz : sizeIs P e 1) (hzz : zeroIs P e z) (hx : ev ts x = some v) (hv : v.oneCell' = true) (hy : ev ts y = some u) (hu : u.oneCell' = true)
    (h : ∀ b, At E n D ((i, .slice (some ⟨b, 0, none⟩) 2 2) :: ts) (blk b e #[v, u] :: l) K) : At E n D ts l (fun a w => (Oper.mk (some i) (.buildSlice t 2 #[(0, x), (1, y)]) ty pos af g).wp P a w K Q) :=
  o_slices (ps := [(0, x), (1, y)]) (vs := [v, u]) (cs := #[v, u]) hi ht hz hzz (by omega) (by omega) (by simp [evs, hx, hy]) (by
    have e1 : Array.range (2 * 1) = #[0, 1] := rfl
    rw [e1]
    simp [Instr.fill, cells_one hv, cells_one hu]) h
end
set_option maxRecDepth 10000 in
set_option maxHeartbeats 1000000 in
theorem finish_does {e : Nat} {p : EA} {S : FK.En} {id : Nat} {st : Int} {R : FK.Rn} (hR : S.getR id = some R) (hn : R.steps.length ≤ 100) (hq : S.queue.length ≤ 400) (hl : S.tms.length ≤ 99999) (hends : S.ends < 9223372036854775807) : Does Tryz.prog G 235 [ptr e, natV id, .int .i64 st].toArray [engX e p S] fun v m => v = .tuple #[] ∧ m = [engX e p (S.finish id st)] := by
  refine Does.body Tryz.func235 rfl rfl fun E fr hE => ?_
  refine At.app1 ?_
  refine At.seq ?_
  refine At.region ?_
  refine L.op rfl (o_box rfl rfl fun b4 => ?_)
  refine L.nil ?_
  refine At.then ?_
  refine At.seq ?_
  refine Dr.start rfl ?_
  refine Dr.p 0 rfl rfl (by kernel_rfl) (ev_move rfl) ?_
  refine Dr.p 1 rfl rfl (by kernel_rfl) (ev_nil rfl) ?_
  refine Dr.p 2 rfl rfl (by kernel_rfl) (ev_field (off := 1) rfl rfl) ?_
  refine Dr.ld 3 rfl rfl (by kernel_rfl) (ev_load1 rfl rfl) (eng_cell fun _ _ _ => rfl) ?_
  refine Dr.ld 4 rfl rfl (by kernel_rfl) (ev_load1 rfl rfl) (cellIs rfl) ?_
  refine Dr.ld 5 rfl rfl (by kernel_rfl) (ev_vget (a := id) (v := ptr (p.fb id)) rfl natKey rfl rfl (runs_get hR)) eng_runs ?_
  refine Dr.p 6 rfl rfl (by kernel_rfl) (ev_assign rfl) ?_
  refine Dr.done (by kernel_rfl) ?_
  refine At.then ?_
  refine At.seq ?_
  refine At.region ?_
  refine L.mv rfl rfl ?_
  refine L.nc rfl rfl ?_
  refine L.fa 9 rfl rfl rfl ?_
  refine L.val rfl (ev_load1 (v := .int .u64 S.ends) rfl rfl) (eng_cell fun _ _ _ => rfl) ?_
  refine L.pure rfl (ev_add (r := ((S.ends + 1 : Nat) : Int)) rfl rfl (by rw [mu64]; omega)) ?_
  refine L.nc rfl rfl ?_
  refine L.fa 9 rfl rfl rfl ?_
  refine L.op rfl (o_stEng (S := S) (S' := { S with ends := S.ends + 1 }) rfl rfl rfl (by omega) rfl (fun _ _ _ => rfl) rfl rfl rfl rfl rfl rfl ?_)
  refine L.nil ?_
  refine At.then ?_
  refine At.seq ?_
  obtain ⟨S1, hS1⟩ : ∃ S1, S1 = { S with ends := S.ends + 1 } := ⟨_, rfl⟩
  have hR1 : S1.getR id = some R := by rw [hS1]; exact hR
  have hE1 : S1.ends = S.ends + 1 := by rw [hS1]
  rw [← hS1]
  refine At.region ?_
  refine L.mv rfl rfl ?_
  refine L.mv rfl rfl ?_
  refine L.mv rfl rfl ?_
  refine L.mv rfl rfl ?_
  refine L.nc rfl rfl ?_
  refine L.fa 9 rfl rfl rfl ?_
  refine L.val rfl (ev_load1 (v := .int .u64 ((S.ends + 1 : Nat) : Int)) rfl rfl) (eng_cell fun _ _ _ => by rw [← hE1]; rfl) ?_
  refine L.nc rfl rfl ?_
  refine L.fa 2 rfl rfl rfl ?_
  refine L.op rfl (o_stRun (R' := { R with state := st }) hR1 rfl rfl rfl (by omega) rfl rfl rfl rfl ?_)
  refine L.nc rfl rfl ?_
  refine L.fa 4 rfl rfl rfl ?_
  refine L.op rfl (o_stRun (S := S1.setR id { R with state := st }) (R := { R with state := st }) (R' := { R with state := st, ended := S.ends + 1 }) (FK.getR_setR hR1) rfl rfl rfl (by omega) rfl rfl rfl rfl ?_)
  refine L.nil ?_
  refine At.then ?_
  refine At.seq ?_
  refine Dr.start rfl ?_
  refine Dr.p 0 rfl rfl (by kernel_rfl) (ev_move rfl) ?_
  refine Dr.p 1 rfl rfl (by kernel_rfl) (ev_nil rfl) ?_
  refine Dr.p 2 rfl rfl (by kernel_rfl) (ev_field (off := 6) rfl rfl) ?_
  refine Dr.ld 3 rfl rfl (by kernel_rfl) (ev_load1 rfl rfl) (eng_cell fun _ _ _ => rfl) ?_
  refine Dr.ld 4 rfl rfl (by kernel_rfl) (ev_load1 rfl rfl) (cellIs rfl) ?_
  refine Dr.p 5 rfl rfl (by kernel_rfl) (ev_build (cs := #[.int .u64 id, .int .i64 (-1), .int .i64 0]) rfl rfl rfl rfl rfl) ?_
  refine Dr.run 6 rfl rfl (by kernel_rfl) (o_call rfl rfl rfl hE (drop_eng ⟨id, -1, 0⟩ (by rw [hS1]; exact hl)) (Ent.refl _) ?_)
  rintro v m ⟨rfl, rfl⟩
  refine At.app1 ?_
  refine Dr.kept [true, false] (by kernel_rfl) (Kept.cons (cellIs rfl) Kept.nil) ?_
  refine Dr.done (by kernel_rfl) ?_
  refine At.then ?_
  refine At.seq ?_
  refine At.seq ?_
  obtain ⟨T, hT⟩ : ∃ T, T = (S1.setR id { R with state := st, ended := S.ends + 1 }).unset ⟨id, -1, 0⟩ := ⟨_, rfl⟩
  have hRT : T.getR id = some { R with state := st, ended := S.ends + 1 } := by rw [hT]; exact FK.getR_setR hR1
  have hlT : T.tms.length ≤ 99999 := by rw [hT, hS1]; exact Nat.le_trans (List.length_filter_le _ _) hl
  have hqT : T.queue = S.queue := by rw [hT, hS1]; rfl
  rw [FK.setR_setR, ← hT]
  refine At.region ?_
  refine L.mv rfl rfl ?_
  refine L.nc rfl rfl ?_
  refine L.fa 3 rfl rfl rfl ?_
  refine L.val rfl (ev_load1 (v := (p.ra id).sv R) rfl rfl) (run_cell hRT rfl) ?_
  refine L.pure rfl (ev_lenS rfl rfl) ?_
  refine L.mv rfl rfl ?_
  refine L.nil ?_
  refine At.then ?_
  refine At.block ?_
  refine At.loop (X := Nat) (fun k => [(45, .int .i64 k), (44, .int .i64 R.steps.length), (6, ptr (p.fb id)), (0, ptr e), (4, ptr b4)]) (fun k => engX e p (T.endN id k) :: blk b4 51 #[natV id] :: fr) (fun k => k ≤ R.steps.length) (fun k => R.steps.length - k) 0 (Nat.zero_le _) ⟨rfl, rfl, rfl, rfl, rfl, trivial⟩ (Ent.refl _) ?_
  intro k hk
  obtain ⟨R1, hR2, hsame, hl2, hq2⟩ := FK.endN_on hRT k hk
  have hlen : R1.steps.length = R.steps.length := hsame.len
  refine At.seq ?_
  refine At.region ?_
  refine L.pure rfl (ev_lss rfl rfl rfl) ?_
  refine L.nil ?_
  refine At.then ?_
  refine At.seq ?_
  refine At.condD rfl (fun c46 => ?_) (fun c46 => ?_)
  ·
    have hlt : k < R.steps.length := by omega
    obtain ⟨s, hs⟩ : ∃ s, R1.steps[k]? = some s := ⟨R1.steps[k]'(by omega), by simp⟩
    refine At.skip ?_
    refine At.then ?_
    refine At.seq ?_
    refine At.block ?_
    refine At.seq ?_
    refine At.region ?_
    refine L.mv rfl rfl ?_
    refine L.as rfl rfl ?_
    refine L.nil ?_
    refine At.then ?_
    refine At.seq ?_
    refine At.region ?_
    refine L.mv rfl rfl ?_
    refine L.ld rfl rfl rfl rfl ?_
    refine L.mv rfl rfl ?_
    refine L.pure rfl (ev_build (cs := #[.int .u64 id, .int .i64 (k : Int), .int .i64 0]) rfl rfl rfl rfl rfl) ?_
    refine L.op rfl (o_call rfl rfl rfl hE (leave_does (wh := 0) hR2 hs (by omega)) (Ent.refl _) ?_)
    rintro v m ⟨rfl, rfl⟩
    refine At.app1 ?_
    refine L.as rfl rfl ?_
    refine L.nil ?_
    refine At.then ?_
    refine At.seq ?_
    refine At.region ?_
    refine L.mv rfl rfl ?_
    refine L.mv rfl rfl ?_
    refine L.op rfl (o_slice2 rfl rfl rfl rfl rfl rfl rfl rfl fun b55 => ?_)
    refine L.op rfl (o_call rfl rfl rfl hE (is_does [5, 6] (some ⟨b55, 0, none⟩) 2 (FK.leave_R hR2 hs) (FK.setS_at hs)) ((Ent.sel2 (.tail (.head)) .head).trans (Ent.cons (ent_states (xs := [5, 6]) (show 2 ≤ 9223372036854775807 by omega)))) ?_)
    rintro v m ⟨rfl, rfl⟩
    refine At.app1 ?_
    refine L.pure rfl (ev_not rfl rfl) ?_
    refine L.nil ?_
    refine At.then ?_
    refine At.cond rfl (fun c57 => ?_) (fun c57 => ?_)
    ·
      have hne : ¬ (s.state = 5 ∨ s.state = 6) := by simpa using c57
      refine At.region ?_
      refine L.mv rfl rfl ?_
      refine L.nc rfl rfl ?_
      refine L.fa 0 rfl rfl rfl ?_
      refine L.op rfl (o_stStep (S := (T.endN id k).leave id k) (R := R1.setS k { s with token := 0 }) (s := { s with token := 0 }) (j := 0) (s' := { s with token := 0, state := 7 }) (FK.leave_R hR2 hs) (FK.setS_at hs) rfl rfl rfl rfl (by omega) rfl rfl ?_)
      refine L.nil ?_
      refine At.inBlock (At.then ?_)
      refine At.region ?_
      refine L.pure rfl (ev_add (r := ((k + 1 : Nat) : Int)) rfl rfl (by rw [w64 (by omega)]; omega)) ?_
      refine L.mv rfl rfl ?_
      refine L.nil ?_
      exact At.round (k + 1) hlt (by omega) ⟨rfl, rfl, rfl, rfl, rfl, trivial⟩ (by
        rw [FK.endN_succ, FK.endK_eq hR2 hs]
        unfold FK.endS
        rw [if_neg hne]
        exact Ent.refl _)
    ·
      have hne : s.state = 5 ∨ s.state = 6 := Decidable.byContradiction fun h => by simp only [not_or] at h; simp [h.1, h.2] at c57
      refine At.skip ?_
      refine At.inBlock (At.then ?_)
      refine At.region ?_
      refine L.pure rfl (ev_add (r := ((k + 1 : Nat) : Int)) rfl rfl (by rw [w64 (by omega)]; omega)) ?_
      refine L.mv rfl rfl ?_
      refine L.nil ?_
      exact At.round (k + 1) hlt (by omega) ⟨rfl, rfl, rfl, rfl, rfl, trivial⟩ (by
        rw [FK.endN_succ, FK.endK_eq hR2 hs]
        unfold FK.endS
        rw [if_pos hne, FK.setS_setS, FK.leave_same hR2 hs]
        exact Ent.refl _)
  ·
    have hke : k = R.steps.length := by omega
    refine At.exit ?_
    refine At.thenExit (At.roundExit (At.inBlockHit (At.then ?_)))
    refine At.region ?_
    refine L.mv rfl rfl ?_
    refine L.nc rfl rfl ?_
    refine L.fa 3 rfl rfl rfl ?_
    refine L.pure rfl (ev_func rfl rfl) ?_
    refine L.op rfl (o_call rfl rfl rfl hE (keep_eng b4 id (by rw [hq2, hqT]; exact hq)) (Ent.refl _) ?_)
    rintro v m ⟨rfl, rfl⟩
    refine At.app1 ?_
    refine L.nil ?_
    refine At.end0 [engX e p (S.finish id st)] rfl ⟨rfl, rfl⟩ ?_
    rw [FK.finish_eq hR, hke, hT, hS1]
    exact Ent.refl _
end Go.Proofs.YtmeegfamopaljaaGreatDoor

namespace FK
theorem settle_eq {S : En} {id : Nat} {R : Rn} (hR : S.getR id = some R) : S.settle id = if R.steps.all over then S.finish id (if R.steps.all fun s => s.state == 5 then 2 else 3) else S := by
  unfold En.settle
  rw [hR]
theorem wake_on {S : En} {id : Nat} {R : Rn} (hR : S.getR id = some R) : ∃ R', (S.wake id).getR id = some R' ∧ SameR R R' ∧ (S.wake id).queue.length ≤ S.queue.length + R.fl.nodes.length := by
  have : S.wake id = S.wakeN id R.fl.nodes.length := by unfold En.wake; rw [hR]
  rw [this]
  exact wakeN_on hR _
theorem onS_same (S : En) (id k : Nat) (g : Sp → Sp) : (S.onS id k g).now = S.now ∧ (S.onS id k g).seed = S.seed ∧ (S.onS id k g).tms = S.tms ∧ (S.onS id k g).sets = S.sets ∧ (S.onS id k g).tasks = S.tasks ∧ (S.onS id k g).ends = S.ends ∧ (S.onS id k g).lastRun = S.lastRun ∧ (S.onS id k g).lastToken = S.lastToken := by
  unfold En.onS
  split
  · split <;> exact ⟨rfl, rfl, rfl, rfl, rfl, rfl, rfl, rfl⟩
  · exact ⟨rfl, rfl, rfl, rfl, rfl, rfl, rfl, rfl⟩
theorem wakeK_same (S : En) (id k : Nat) : (En.wakeK id S k).now = S.now ∧ (En.wakeK id S k).seed = S.seed ∧ (En.wakeK id S k).tms = S.tms ∧ (En.wakeK id S k).sets = S.sets ∧ (En.wakeK id S k).tasks = S.tasks ∧ (En.wakeK id S k).ends = S.ends ∧ (En.wakeK id S k).lastRun = S.lastRun ∧ (En.wakeK id S k).lastToken = S.lastToken := by
  unfold En.wakeK
  split
  · split
    · exact onS_same S id k _
    · exact ⟨rfl, rfl, rfl, rfl, rfl, rfl, rfl, rfl⟩
  · exact ⟨rfl, rfl, rfl, rfl, rfl, rfl, rfl, rfl⟩
theorem wakeN_same (S : En) (id : Nat) : ∀ n, (S.wakeN id n).now = S.now ∧ (S.wakeN id n).seed = S.seed ∧ (S.wakeN id n).tms = S.tms ∧ (S.wakeN id n).sets = S.sets ∧ (S.wakeN id n).tasks = S.tasks ∧ (S.wakeN id n).ends = S.ends ∧ (S.wakeN id n).lastRun = S.lastRun ∧ (S.wakeN id n).lastToken = S.lastToken
  | 0 => ⟨rfl, rfl, rfl, rfl, rfl, rfl, rfl, rfl⟩
  | n + 1 => by
    rw [wakeN_succ]
    obtain ⟨a, b, c, d, e, f, g, h⟩ := wakeK_same (S.wakeN id n) id n
    obtain ⟨a', b', c', d', e', f', g', h'⟩ := wakeN_same S id n
    exact ⟨a.trans a', b.trans b', c.trans c', d.trans d', e.trans e', f.trans f', g.trans g', h.trans h'⟩
theorem wake_same (S : En) (id : Nat) : (S.wake id).now = S.now ∧ (S.wake id).seed = S.seed ∧ (S.wake id).tms = S.tms ∧ (S.wake id).sets = S.sets ∧ (S.wake id).tasks = S.tasks ∧ (S.wake id).ends = S.ends ∧ (S.wake id).lastRun = S.lastRun ∧ (S.wake id).lastToken = S.lastToken := by
  unfold En.wake
  split
  · exact wakeN_same S id _
  · exact ⟨rfl, rfl, rfl, rfl, rfl, rfl, rfl, rfl⟩
end FK
namespace Go.Proofs.YtmeegfamopaljaaGreatDoor
open Go Go.RowKit Go.SL
variable {G : Env → Prop}
set_option maxRecDepth 10000 in
set_option maxHeartbeats 1000000 in
theorem settle_does {e : Nat} {p : EA} {S : FK.En} {id : Nat} {R : FK.Rn} (hR : S.getR id = some R) (hn : R.steps.length ≤ 100) (hq : S.queue.length ≤ 400) (hl : S.tms.length ≤ 99999) (hends : S.ends < 9223372036854775807) : Does Tryz.prog G 233 [ptr e, natV id].toArray [engX e p S] fun v m => v = .tuple #[] ∧ m = [engX e p (S.settle id)] := by
  refine Does.body Tryz.func233 rfl rfl fun E fr hE => ?_
  refine At.app1 ?_
  refine At.seq ?_
  refine At.region ?_
  refine L.mv rfl rfl ?_
  refine L.nc rfl rfl ?_
  refine L.fa 1 rfl rfl rfl ?_
  refine L.val rfl (ev_load1 (v := .map (some p.rm)) rfl rfl) (eng_cell fun _ _ _ => rfl) ?_
  refine L.mv rfl rfl ?_
  refine L.val rfl (ev_vget (m := runM S p) rfl natKey rfl rfl (runs_get hR)) eng_runs ?_
  refine L.as rfl rfl ?_
  refine L.nil ?_
  refine At.then ?_
  refine At.seq ?_
  refine At.region ?_
  refine L.as rfl rfl ?_
  refine L.nil ?_
  refine At.then ?_
  refine At.seq ?_
  refine At.seq ?_
  refine At.region ?_
  refine L.mv rfl rfl ?_
  refine L.nc rfl rfl ?_
  refine L.fa 3 rfl rfl rfl ?_
  refine L.val rfl (ev_load1 (v := (p.ra id).sv R) rfl rfl) (run_cell hR rfl) ?_
  refine L.pure rfl (ev_lenS rfl rfl) ?_
  refine L.mv rfl rfl ?_
  refine L.nil ?_
  refine At.then ?_
  refine At.block ?_
  refine At.loop (X := Nat) (fun k => [(18, .int .i64 k), (17, .int .i64 R.steps.length), (5, .int .i64 (if (R.steps.take k).all (fun s => s.state == 5) then 2 else 3)), (4, ptr (p.fb id)), (0, ptr e), (1, natV id)]) (fun _ => engX e p S :: fr) (fun k => k ≤ R.steps.length ∧ (R.steps.take k).all FK.over = true) (fun k => R.steps.length - k) 0 ⟨Nat.zero_le _, by simp⟩ ⟨rfl, rfl, rfl, rfl, rfl, rfl, trivial⟩ (Ent.refl _) ?_
  rintro k ⟨hk, hall⟩
  refine At.seq ?_
  refine At.region ?_
  refine L.pure rfl (ev_lss rfl rfl rfl) ?_
  refine L.nil ?_
  refine At.then ?_
  refine At.seq ?_
  refine At.condD rfl (fun c19 => ?_) (fun c19 => ?_)
  ·
    have hlt : k < R.steps.length := by omega
    obtain ⟨s, hs⟩ : ∃ s, R.steps[k]? = some s := ⟨R.steps[k], by simp [hlt]⟩
    have htk : R.steps.take (k + 1) = R.steps.take k ++ [s] := by rw [List.take_add_one, hs]; rfl
    refine At.skip ?_
    refine At.then ?_
    refine At.seq ?_
    refine At.block ?_
    refine At.seq ?_
    refine At.region ?_
    refine L.mv rfl rfl ?_
    refine L.as rfl rfl ?_
    refine L.nil ?_
    refine At.then ?_
    refine At.seq ?_
    refine At.region ?_
    refine L.mv rfl rfl ?_
    refine L.nc rfl rfl ?_
    refine L.fa 3 rfl rfl rfl ?_
    refine L.val rfl (ev_load1 (v := (p.ra id).sv R) rfl rfl) (run_cell hR rfl) ?_
    refine L.mv rfl rfl ?_
    refine L.pure rfl (ev_ixN (z := 3) rfl rfl rfl rfl hlt) ?_
    refine L.fa 0 rfl rfl rfl ?_
    refine L.val rfl (ev_load1 (v := .int .i64 s.state) rfl rfl) (step_cell hR hs rfl) ?_
    refine L.nil ?_
    refine At.then ?_
    refine At.block ?_
    refine At.seq ?_
    refine At.region ?_
    refine L.pure rfl (ev_eql rfl rfl rfl) ?_
    refine L.as rfl rfl ?_
    refine L.nil ?_
    refine At.then ?_
    refine At.condD rfl (fun c29 => ?_) (fun c29 => ?_)
    ·
      refine At.skip ?_
      refine At.inBlock (At.inBlock (At.then ?_))
      refine At.region ?_
      refine L.pure rfl (ev_add (r := ((k + 1 : Nat) : Int)) rfl rfl (by rw [w64 (by omega)]; omega)) ?_
      refine L.mv rfl rfl ?_
      refine L.nil ?_
      exact At.round (k + 1) ⟨hlt, by rw [htk, List.all_append, hall]; simp [FK.over, c29]⟩ (by omega) ⟨rfl, rfl, by rw [show (if (R.steps.take (k + 1)).all (fun s => s.state == 5) then (2 : Int) else 3) = (if (R.steps.take k).all (fun s => s.state == 5) then (2 : Int) else 3) by rw [htk, List.all_append]; simp [c29]]; rfl, rfl, rfl, rfl, trivial⟩ (Ent.refl _)
    ·
      refine At.seq ?_
      refine At.seq ?_
      refine At.region ?_
      refine L.pure rfl (ev_eql rfl rfl rfl) ?_
      refine L.as rfl rfl ?_
      refine L.nil ?_
      refine At.then ?_
      refine At.condD rfl (fun c31 => ?_) (fun c31 => ?_)
      ·
        refine At.skip ?_
        refine At.then ?_
        refine At.condD rfl (fun c31 => ?_) (fun c31 => ?_)
        ·
          refine At.region ?_
          refine L.as rfl rfl ?_
          refine L.nil ?_
          refine At.inBlock (At.inBlock (At.then ?_))
          refine At.region ?_
          refine L.pure rfl (ev_add (r := ((k + 1 : Nat) : Int)) rfl rfl (by rw [w64 (by omega)]; omega)) ?_
          refine L.mv rfl rfl ?_
          refine L.nil ?_
          exact At.round (k + 1) ⟨hlt, by rw [htk, List.all_append, hall]; simp [FK.over, c31]⟩ (by omega) ⟨rfl, rfl, by rw [show (if (R.steps.take (k + 1)).all (fun s => s.state == 5) then (2 : Int) else 3) = 3 by rw [htk, List.all_append]; simp [c29]]; rfl, rfl, rfl, rfl, trivial⟩ (Ent.refl _)
        ·
          refine At.ret ?_
          refine At.inBlockRet (At.inBlockRet (At.thenRet (At.roundRet (At.inBlockRet (At.thenRet ?_)))))
          exact absurd (by assumption) c31
      ·
        refine At.region ?_
        refine L.pure rfl (ev_eql rfl rfl rfl) ?_
        refine L.as rfl rfl ?_
        refine L.nil ?_
        refine At.then ?_
        refine At.condD rfl (fun c31 => ?_) (fun c31 => ?_)
        ·
          refine At.region ?_
          refine L.as rfl rfl ?_
          refine L.nil ?_
          refine At.inBlock (At.inBlock (At.then ?_))
          refine At.region ?_
          refine L.pure rfl (ev_add (r := ((k + 1 : Nat) : Int)) rfl rfl (by rw [w64 (by omega)]; omega)) ?_
          refine L.mv rfl rfl ?_
          refine L.nil ?_
          exact At.round (k + 1) ⟨hlt, by rw [htk, List.all_append, hall]; simp [FK.over, c31]⟩ (by omega) ⟨rfl, rfl, by rw [show (if (R.steps.take (k + 1)).all (fun s => s.state == 5) then (2 : Int) else 3) = 3 by rw [htk, List.all_append]; simp [c29]]; rfl, rfl, rfl, rfl, trivial⟩ (Ent.refl _)
        ·
          refine At.ret ?_
          refine At.inBlockRet (At.inBlockRet (At.thenRet (At.roundRet (At.inBlockRet (At.thenRet ?_)))))
          refine At.end0 [engX e p (S.settle id)] rfl ⟨rfl, rfl⟩ ?_
          have : ¬ R.steps.all FK.over = true := fun h => by
            have := List.all_eq_true.1 h s (List.mem_of_getElem? hs)
            simp [FK.over] at this
            omega
          rw [FK.settle_eq hR, if_neg this]
          exact Ent.refl _
  ·
    have hke : k = R.steps.length := by omega
    rw [hke, List.take_length] at hall
    have hst : R.steps.take k = R.steps := by rw [hke, List.take_length]
    rw [hst]
    refine At.exit ?_
    refine At.thenExit (At.roundExit (At.inBlockHit (At.then ?_)))
    refine At.region ?_
    refine L.mv rfl rfl ?_
    refine L.mv rfl rfl ?_
    refine L.mv rfl rfl ?_
    refine L.op rfl (o_call rfl rfl rfl hE (finish_does hR hn hq hl hends) (Ent.refl _) ?_)
    rintro v m ⟨rfl, rfl⟩
    refine At.app1 ?_
    refine L.nil ?_
    exact At.end0 [engX e p (S.settle id)] rfl ⟨rfl, rfl⟩ (by rw [FK.settle_eq hR, if_pos hall]; exact Ent.refl _)
theorem task_v {S : FK.En} {t : Nat} {q : FK.Pl} (ht : (S.tasks.find? (·.1 == t)).map (·.2) = some q) : vassoc (taskM S) t = some (plV q) := by
  rw [tasks_get]
  cases hf : S.tasks.find? (·.1 == t) with
  | none => rw [hf] at ht; cases ht
  | some x => rw [hf] at ht; injection ht with ht; simp only [Option.map_some, ht]
set_option maxRecDepth 10000 in
set_option maxHeartbeats 1000000 in
theorem complete_does {e : Nat} {p : EA} {S : FK.En} {t id k : Nat} {wh : Int} {R : FK.Rn} {s : FK.Sp} (ht : (S.tasks.find? (·.1 == t)).map (·.2) = some ⟨id, (k : Int), wh⟩) (hR : S.getR id = some R) (hs : R.steps[k]? = some s) (hlen : R.steps.length = R.fl.nodes.length) (hfit : FitA R.fl) (hn : R.fl.nodes.length ≤ 100) (hq : S.queue.length ≤ 300) (hl : S.tms.length ≤ 99999) (hends : S.ends < 9223372036854775807) : Does Tryz.prog G 207 [ptr e, natV t].toArray [engX e p S] fun v m => v = .tuple #[] ∧ m = [engX e p (S.complete t)] := by
  refine Does.body Tryz.func207 rfl rfl fun E fr hE => ?_
  refine At.app1 ?_
  refine At.seq ?_
  refine At.region ?_
  refine L.mv rfl rfl ?_
  refine L.nc rfl rfl ?_
  refine L.fa 2 rfl rfl rfl ?_
  refine L.val rfl (ev_load1 (v := .map (some p.tm)) rfl rfl) (eng_cell fun _ _ _ => rfl) ?_
  refine L.mv rfl rfl ?_
  refine L.val rfl (ev_vget (m := taskM S) rfl natKey rfl rfl (task_v ht)) eng_tasks ?_
  refine L.op rfl (o_alloc (z := .agg #[.int .u64 0, .int .i64 0, .int .i64 0]) rfl rfl fun b4 => ?_)
  refine L.op rfl (o_storeN (vs := plL ⟨id, (k : Int), wh⟩) rfl (m := 3) rfl rfl rfl rfl (by simp [Value.oneCell']) (by show 0 + 3 ≤ 3; omega) ?_)
  refine At.ent (l' := blk b4 268 (plL ⟨id, (k : Int), wh⟩).toArray :: engX e p S :: fr) (Ent.refl _) ?_
  refine L.nil ?_
  refine At.then ?_
  refine At.seq ?_
  refine At.region ?_
  refine L.mv rfl rfl ?_
  refine L.val rfl (ev_loadN (vs := plL ⟨id, (k : Int), wh⟩) rfl rfl rfl rfl) (rowAll rfl) ?_
  refine L.op rfl (o_call rfl rfl rfl hE (leave_does (wh := wh) hR hs hl) (Ent.sel (.tail (.head))) ?_)
  rintro v m ⟨rfl, rfl⟩
  refine At.app1 ?_
  refine L.nc rfl rfl ?_
  refine L.fa 0 rfl rfl rfl ?_
  refine L.op rfl (o_stStep (S := S.leave id k) (R := R.setS k { s with token := 0 }) (s := { s with token := 0 }) (j := 0) (s' := { s with token := 0, state := 5 }) (FK.leave_R hR hs) (FK.setS_at hs) rfl rfl rfl rfl (by omega) rfl rfl ?_)
  refine L.nil ?_
  refine At.then ?_
  refine At.seq ?_
  obtain ⟨T, hT⟩ : ∃ T, T = (S.leave id k).setR id ((R.setS k { s with token := 0 }).setS k { s with token := 0, state := 5 }) := ⟨_, rfl⟩
  obtain ⟨R1, hR1d⟩ : ∃ R1, R1 = (R.setS k { s with token := 0 }).setS k { s with token := 0, state := 5 } := ⟨_, rfl⟩
  have hsm : FK.SameR R R1 := by rw [hR1d]; exact (FK.SameR.setS R k _).trans (FK.SameR.setS _ k _)
  have hRT : T.getR id = some R1 := by rw [hT, hR1d]; exact FK.getR_setR (FK.leave_R hR hs)
  have hqT : T.queue = S.queue := by rw [hT]; exact FK.leave_queue
  have hlT : T.tms.length ≤ 99999 := by rw [hT]; exact Nat.le_trans FK.leave_tms hl
  have hends' : T.ends = S.ends := by rw [hT, FK.leave_eq hR hs]; rfl
  have hcomp : S.complete t = (T.wake id).settle id := by
    unfold FK.En.complete
    rw [ht]
    show (((S.leave id (k : Int).toNat).onS id (k : Int).toNat fun s => { s with state := 5 }).wake id).settle id = _
    rw [Int.toNat_natCast, FK.onS_eq _ (FK.leave_R hR hs) (FK.setS_at hs), hT]
  rw [← hT]
  obtain ⟨R2, hR2, hsm2, hq2⟩ := FK.wake_on hRT
  have hfl := hsm.fl
  have hln := hsm.len
  have hln2 := hsm2.len
  obtain ⟨ws1, ws2, ws3, ws4, ws5, ws6, ws7, ws8⟩ := FK.wake_same T id
  refine At.region ?_
  refine L.mv rfl rfl ?_
  refine L.fa 0 rfl rfl rfl ?_
  refine L.ld rfl rfl rfl rfl ?_
  refine L.op rfl (o_call rfl rfl rfl hE (wake_does hRT (by rw [hln, hfl]; exact hlen) (by rw [hfl]; exact hfit) (by rw [hfl]; exact hn) (by rw [hqT]; exact hq)) (Ent.refl _) ?_)
  rintro v m ⟨rfl, rfl⟩
  refine At.app1 ?_
  refine L.nil ?_
  refine At.then ?_
  refine At.region ?_
  refine L.mv rfl rfl ?_
  refine L.fa 0 rfl rfl rfl ?_
  refine L.ld rfl rfl rfl rfl ?_
  refine L.op rfl (o_call rfl rfl rfl hE (settle_does hR2 (by omega) (by rw [hfl, hqT] at hq2; omega) (by rw [ws3]; exact hlT) (by rw [ws6, hends']; exact hends)) (Ent.refl _) ?_)
  rintro v m ⟨rfl, rfl⟩
  refine At.app1 ?_
  refine L.nil ?_
  exact At.end0 [engX e p (S.complete t)] rfl ⟨rfl, rfl⟩ (by rw [hcomp]; exact Ent.cons Ent.drop)
end Go.Proofs.YtmeegfamopaljaaGreatDoor

namespace Go.Proofs.YtmeegfamopaljaaGreatDoor
open Go Go.RowKit Go.SL
variable {G : Env → Prop}
abbrev taskL (run : Nat) (node tr : Int) (token : Nat) : List Value := [.int .u64 run, .int .i64 node, .int .i64 tr, .int .u64 token]
abbrev taskV (run : Nat) (node tr : Int) (token : Nat) : Value := .agg (taskL run node tr token).toArray
theorem rpop1_eng {e : Nat} {p : EA} {S : FK.En} {x : FK.Pl} {q : List FK.Pl} (h : S.queue = x :: q) : Does Tryz.prog G 163 [rptr e].toArray [engX e p S] fun v m => v = .tuple #[plV x, .bool true] ∧ m = [engX e p { S with queue := q }] :=
  Does.ring (R := fun v m => v = .tuple #[plV x, .bool true] ∧ m = [ringE e (ecOf S p) q]) (by rw [h]; exact rpop_some e _) fun _ _ ⟨h1, h2⟩ => ⟨q, h2, h1, rfl⟩
section
variable {P : Program} {E : Env} {n : Nat} {D : List Deferred} {ts : List (Nat × Value)} {l r : List HP} {Q : Exit → Act → World → Prop} {ty : TypeId} {pos : String} {af : Array Edge} {g : Option (Nat × Bool)} {t : TypeId} {x y z : Operand} {e : Nat} {p : EA} {S : FK.En} {K : Act → World → Prop} [H : HasEng l e p S r]
theorem o_addTask {tok : Nat} {q : FK.Pl} {t kt et : TypeId} {d : Option Tmp} (hd : d = none) (ht : P.underlying t = some (.map kt et)) (hk : KeyK P kt Nat natV) (hx : ev ts x = some (.map (some p.tm))) (hy : ev ts y = some (natV tok)) (hz : ev ts z = some (plV q)) (hn : ∀ t ∈ S.tasks, t.1 ≠ tok)
    (h : At E n D ts (engX e p { S with tasks := S.tasks ++ [(tok, q)] } :: r) K) : At E n D ts l (fun ac w => (Oper.mk d (.mapUpdate t x y z) ty pos af g).wp P ac w K Q) := by
  refine At.ent (Ent.sel H.sel) (At.openAll ?_)
  show At E n D ts (HP.pure (EngOk S) :: ringE e (ecOf S p) S.queue :: vmap natV p.rm (runM S p) :: runsX p S.runs :: vmap natV p.tm (taskM S) :: wheelE p.w S.now S.sets S.tms :: r) _
  have hv : vassoc (taskM S) tok = none := by
    rw [tasks_get]
    cases hf : S.tasks.find? (·.1 == tok) with
    | none => rfl
    | some u => exact absurd (by simpa using List.find?_some hf) (hn u (List.mem_of_find?_eq_some hf))
  refine o_vnew (b := p.tm) (a := tok) (v := plV q) hd ht hk hx hy hz (.tail (.tail (.tail (.tail .head)))) hv ?_
  refine At.ent ?_ h
  have hm : taskM S ++ [(tok, plV q)] = taskM { S with tasks := S.tasks ++ [(tok, q)] } := by simp [taskM]
  rw [hm]
  refine Ent.trans ?_ (Ent.all (m := engL e p { S with tasks := S.tasks ++ [(tok, q)] }))
  exact (Ent.sel3 (.tail .head) (.tail .head) (.tail .head)).trans (Ent.cons (Ent.cons (Ent.cons (Ent.sel (.tail .head)))))
end
set_option maxRecDepth 10000 in
set_option maxHeartbeats 1000000 in
theorem poll1_does {e : Nat} {p : EA} {S : FK.En} {id k : Nat} {q : List FK.Pl} {R : FK.Rn} {s : FK.Sp} {nd : FK.Node} (h : S.queue = ⟨id, (k : Int), 0⟩ :: q) (hR : S.getR id = some R) (hs : R.steps[k]? = some s) (hnd : R.fl.nodes[k]? = some nd) (hnow : S.now ≤ 4611686018427387904) (hc0 : 0 ≤ nd.close) (hc : nd.close ≤ 4611686018427387904) (hb : nd.beat ≤ 4611686018427387904) (hsets : S.sets + 1 < 9223372036854775807) (hl : S.tms.length ≤ 99997) (htok : S.lastToken < 9223372036854775807) (htoks : ∀ t ∈ S.tasks, t.1 ≤ S.lastToken) (htr0 : 0 ≤ s.tries) (htr : s.tries < 9223372036854775807) :
    Does Tryz.prog G 101 [ptr e].toArray [engX e p S] fun v m => v = .tuple #[taskV id k (s.tries + 1) (S.lastToken + 1), .bool true] ∧ m = [engX e p (S.hand ⟨id, (k : Int), 0⟩ q R s nd)] := by
  have hk := (List.getElem?_eq_some_iff.1 hs).1
  have hkn := (List.getElem?_eq_some_iff.1 hnd).1
  have hlat : ∀ (T : FK.En) n, T.now ≤ 4611686018427387904 → T.now ≤ T.later n := fun T n h => by unfold FK.En.later; omega
  have hlat2 : ∀ (T : FK.En) n, T.later n ≤ 4611686018427387904 := fun T n => by unfold FK.En.later; omega
  refine Does.body Tryz.func101 rfl rfl fun E fr hE => ?_
  refine At.app1 ?_
  refine At.fact (fun w hw => aft_form hR hnd hw) fun hA => ?_
  obtain ⟨A, c, hu, -⟩ := hA
  refine At.seq ?_
  refine At.region ?_
  refine L.op rfl (o_alloc (z := .agg #[.int .u64 0, .int .i64 0, .int .i64 0, .int .u64 0]) rfl rfl fun b2 => ?_)
  refine L.as rfl rfl ?_
  refine L.nil ?_
  refine At.then ?_
  refine At.seq ?_
  refine At.region ?_
  refine L.mv rfl rfl ?_
  refine L.nc rfl rfl ?_
  refine L.fa 3 rfl rfl rfl ?_
  refine L.op rfl (o_call rfl rfl rfl hE (rpop1_eng h) (Ent.sel (.tail (.head))) ?_)
  rintro v m ⟨rfl, rfl⟩
  refine At.app1 ?_
  refine L.mv rfl rfl ?_
  refine L.ex rfl rfl rfl ?_
  refine L.ex rfl rfl rfl ?_
  refine L.op rfl (o_alloc (z := .agg #[.int .u64 0, .int .i64 0, .int .i64 0]) rfl rfl fun b4 => ?_)
  refine L.op rfl (o_storeN (vs := plL ⟨id, (k : Int), 0⟩) rfl (m := 3) rfl rfl rfl rfl (by simp [Value.oneCell']) (by show 0 + 3 ≤ 3; omega) ?_)
  refine L.as rfl rfl ?_
  refine L.nil ?_
  refine At.then ?_
  refine At.seq ?_
  refine At.seq ?_
  refine At.region ?_
  refine L.mv rfl rfl ?_
  refine L.pure rfl (ev_not rfl rfl) ?_
  refine L.nil ?_
  refine At.then ?_
  refine At.condF rfl ?_
  refine At.skip ?_
  refine At.then ?_
  refine At.seq ?_
  obtain ⟨S1, hS1⟩ : ∃ S1, S1 = { S with queue := q } := ⟨_, rfl⟩
  rw [← hS1]
  have hR1 : S1.getR id = some R := by rw [hS1]; exact hR
  refine At.ent (l' := blk b4 268 (plL ⟨id, (k : Int), 0⟩).toArray :: engX e p S1 :: blk b2 55 (taskL 0 0 0 0).toArray :: fr) (Ent.refl _) ?_
  refine Dr.start rfl ?_
  refine Dr.p 0 rfl rfl (by kernel_rfl) (ev_move rfl) ?_
  refine Dr.p 1 rfl rfl (by kernel_rfl) (ev_nil rfl) ?_
  refine Dr.p 2 rfl rfl (by kernel_rfl) (ev_field (off := 1) rfl rfl) ?_
  refine Dr.ld 3 rfl rfl (by kernel_rfl) (ev_load1 rfl rfl) (eng_cell fun _ _ _ => rfl) ?_
  refine Dr.p 4 rfl rfl (by kernel_rfl) (ev_field (off := 0) rfl rfl) ?_
  refine Dr.ld 5 rfl rfl (by kernel_rfl) (ev_load1 rfl rfl) (cellIs rfl) ?_
  refine Dr.ld 6 rfl rfl (by kernel_rfl) (ev_vget (a := id) (v := ptr (p.fb id)) rfl natKey rfl rfl (runs_get hR1)) eng_runs ?_
  refine Dr.p 7 rfl rfl (by kernel_rfl) (ev_assign rfl) ?_
  refine Dr.done (by kernel_rfl) ?_
  refine At.then ?_
  refine At.seq ?_
  refine Dr.start rfl ?_
  refine Dr.p 0 rfl rfl (by kernel_rfl) (ev_move rfl) ?_
  refine Dr.p 1 rfl rfl (by kernel_rfl) (ev_nil rfl) ?_
  refine Dr.p 2 rfl rfl (by kernel_rfl) (ev_field (off := 3) rfl rfl) ?_
  refine Dr.ld 3 rfl rfl (by kernel_rfl) (ev_load1 (v := (p.ra id).sv R) rfl rfl) (run_cell hR1 rfl) ?_
  refine Dr.p 4 rfl rfl (by kernel_rfl) (ev_field (off := 1) rfl rfl) ?_
  refine Dr.ld 5 rfl rfl (by kernel_rfl) (ev_load1 rfl rfl) (cellIs rfl) ?_
  refine Dr.p 6 rfl rfl (by kernel_rfl) (ev_ixN (z := 3) rfl rfl rfl rfl hk) ?_
  refine Dr.p 7 rfl rfl (by kernel_rfl) (ev_move rfl) ?_
  refine Dr.p 8 rfl rfl (by kernel_rfl) (ev_nil rfl) ?_
  refine Dr.p 9 rfl rfl (by kernel_rfl) (ev_field (off := 0) rfl rfl) ?_
  refine Dr.p 10 rfl rfl (by kernel_rfl) (ev_field (off := 1) rfl rfl) ?_
  refine Dr.ld 11 rfl rfl (by kernel_rfl) (ev_load1 (v := (p.ra id).nv R) rfl rfl) (run_cell hR1 rfl) ?_
  refine Dr.p 12 rfl rfl (by kernel_rfl) (ev_field (off := 1) rfl rfl) ?_
  refine Dr.ld 13 rfl rfl (by kernel_rfl) (ev_load1 rfl rfl) (cellIs rfl) ?_
  refine Dr.p 14 rfl rfl (by kernel_rfl) (ev_ixN (z := 7) rfl rfl rfl rfl hkn) ?_
  refine Dr.ld 15 rfl rfl (by kernel_rfl) (ev_loadN (vs := nodeCells nd (.slice A nd.after.length c)) rfl rfl rfl rfl) (node_row hR1 hnd hu) ?_
  refine Dr.run 16 rfl rfl (by kernel_rfl) (o_alloc (z := .agg #[.int .i64 0, .int .i64 0, .int .i64 0, .int .i64 0, .int .i64 0, .int .i64 0, .slice none 0 0]) rfl rfl fun b8 => ?_)
  refine Dr.kept [true, true, true, true, true] (by kernel_rfl) (Kept.cons (node_row hR1 hnd hu) (Kept.cons (cellIs rfl) (Kept.cons (run_cell hR1 rfl) (Kept.cons (cellIs rfl) (Kept.cons (run_cell hR1 rfl) Kept.nil))))) ?_
  refine Dr.p 17 rfl rfl (by kernel_rfl) (ev_assign rfl) ?_
  refine Dr.run 18 rfl rfl (by kernel_rfl) (o_storeN (vs := nodeCells nd (.slice A nd.after.length c)) rfl (m := 7) rfl rfl rfl rfl (by simp [nodeCells, Value.oneCell']) (by show 0 + 7 ≤ 7; omega) ?_)
  refine Dr.kept [false, false, false, false, false] (by kernel_rfl) Kept.nil ?_
  refine Dr.done (by kernel_rfl) ?_
  refine At.then ?_
  refine At.seq ?_
  have hlt1 : S1.lastToken = S.lastToken := by rw [hS1]
  refine At.region ?_
  refine L.mv rfl rfl ?_
  refine L.nc rfl rfl ?_
  refine L.fa 8 rfl rfl rfl ?_
  refine L.val rfl (ev_load1 (v := .int .u64 S1.lastToken) rfl rfl) (eng_cell fun _ _ _ => rfl) ?_
  refine L.pure rfl (ev_add (r := ((S1.lastToken + 1 : Nat) : Int)) rfl rfl (by rw [mu64]; omega)) ?_
  refine L.nc rfl rfl ?_
  refine L.fa 8 rfl rfl rfl ?_
  refine L.op rfl (o_stEng (S := S1) (S' := { S1 with lastToken := S1.lastToken + 1 }) rfl rfl rfl (by omega) rfl (fun _ _ _ => rfl) rfl rfl rfl rfl rfl rfl ?_)
  refine L.nil ?_
  refine At.then ?_
  refine At.seq ?_
  obtain ⟨S2, hS2⟩ : ∃ S2, S2 = { S1 with lastToken := S1.lastToken + 1 } := ⟨_, rfl⟩
  rw [← hS2]
  have hR2 : S2.getR id = some R := by rw [hS2]; exact hR1
  have hlt2 : S2.lastToken = S.lastToken + 1 := by rw [hS2, hlt1]
  refine Dr.start rfl ?_
  refine Dr.p 0 rfl rfl (by kernel_rfl) (ev_move rfl) ?_
  refine Dr.p 1 rfl rfl (by kernel_rfl) (ev_move rfl) ?_
  refine Dr.p 2 rfl rfl (by kernel_rfl) (ev_nil rfl) ?_
  refine Dr.p 3 rfl rfl (by kernel_rfl) (ev_field (off := 1) rfl rfl) ?_
  refine Dr.ld 4 rfl rfl (by kernel_rfl) (ev_load1 (v := .int .i64 s.tries) rfl rfl) (step_cell hR2 hs rfl) ?_
  refine Dr.p 5 rfl rfl (by kernel_rfl) (ev_add (r := s.tries + 1) rfl rfl (by rw [w64 (by omega)])) ?_
  refine Dr.p 6 rfl rfl (by kernel_rfl) (ev_move rfl) ?_
  refine Dr.p 7 rfl rfl (by kernel_rfl) (ev_nil rfl) ?_
  refine Dr.p 8 rfl rfl (by kernel_rfl) (ev_field (off := 8) rfl rfl) ?_
  refine Dr.ld 9 rfl rfl (by kernel_rfl) (ev_load1 (v := .int .u64 S2.lastToken) rfl rfl) (eng_cell fun _ _ _ => rfl) ?_
  refine Dr.p 10 rfl rfl (by kernel_rfl) (ev_build (cs := #[.int .i64 3, .int .i64 (s.tries + 1), .int .u64 S2.lastToken]) rfl rfl rfl rfl rfl) ?_
  refine Dr.p 11 rfl rfl (by kernel_rfl) (ev_nil rfl) ?_
  refine Dr.run 12 rfl rfl (by kernel_rfl) (o_stStepN (s' := ⟨3, s.tries + 1, S2.lastToken⟩) hR2 hs rfl rfl rfl rfl ?_)
  refine Dr.kept [false, false] (by kernel_rfl) Kept.nil ?_
  refine Dr.done (by kernel_rfl) ?_
  refine At.then ?_
  refine At.seq ?_
  obtain ⟨R1, hRd⟩ : ∃ R1, R1 = R.setS k ⟨3, s.tries + 1, S2.lastToken⟩ := ⟨_, rfl⟩
  have hs1 : R1.steps[k]? = some ⟨3, s.tries + 1, S2.lastToken⟩ := by rw [hRd]; exact FK.setS_at hs
  rw [← hRd]
  obtain ⟨S3, hS3⟩ : ∃ S3, S3 = S2.setR id R1 := ⟨_, rfl⟩
  rw [← hS3]
  have hR3 : S3.getR id = some R1 := by rw [hS3]; exact FK.getR_setR hR2
  have ht3 : S3.tasks = S.tasks := by rw [hS3, hS2, hS1]; rfl
  refine Dr.start rfl ?_
  refine Dr.p 0 rfl rfl (by kernel_rfl) (ev_move rfl) ?_
  refine Dr.p 1 rfl rfl (by kernel_rfl) (ev_nil rfl) ?_
  refine Dr.p 2 rfl rfl (by kernel_rfl) (ev_field (off := 2) rfl rfl) ?_
  refine Dr.ld 3 rfl rfl (by kernel_rfl) (ev_load1 rfl rfl) (eng_cell fun _ _ _ => rfl) ?_
  refine Dr.p 4 rfl rfl (by kernel_rfl) (ev_move rfl) ?_
  refine Dr.p 5 rfl rfl (by kernel_rfl) (ev_nil rfl) ?_
  refine Dr.p 6 rfl rfl (by kernel_rfl) (ev_field (off := 2) rfl rfl) ?_
  refine Dr.ld 7 rfl rfl (by kernel_rfl) (ev_load1 (v := .int .u64 S2.lastToken) rfl rfl) (step_cell hR3 hs1 rfl) ?_
  refine Dr.ld 8 rfl rfl (by kernel_rfl) (ev_loadN (vs := plL ⟨id, (k : Int), 0⟩) rfl rfl rfl rfl) (rowAll rfl) ?_
  refine Dr.run 9 rfl rfl (by kernel_rfl) (o_addTask (tok := S2.lastToken) (q := ⟨id, (k : Int), 0⟩) rfl rfl natKey rfl rfl rfl (fun t ht => by rw [ht3] at ht; have := htoks t ht; omega) ?_)
  refine Dr.kept [false, false, false] (by kernel_rfl) Kept.nil ?_
  refine Dr.done (by kernel_rfl) ?_
  refine At.then ?_
  refine At.seq ?_
  obtain ⟨U, hU⟩ : ∃ U, U = { S3 with tasks := S3.tasks ++ [(S2.lastToken, (⟨id, (k : Int), 0⟩ : FK.Pl))] } := ⟨_, rfl⟩
  rw [← hU]
  have hRU : U.getR id = some R1 := by rw [hU]; exact hR3
  have hUn : U.now = S.now := by rw [hU, hS3, hS2, hS1]; rfl
  have hUs : U.sets = S.sets := by rw [hU, hS3, hS2, hS1]; rfl
  have hUt : U.tms = S.tms := by rw [hU, hS3, hS2, hS1]; rfl
  refine Dr.start rfl ?_
  refine Dr.p 0 rfl rfl (by kernel_rfl) (ev_move rfl) ?_
  refine Dr.p 1 rfl rfl (by kernel_rfl) (ev_nil rfl) ?_
  refine Dr.p 2 rfl rfl (by kernel_rfl) (ev_field (off := 6) rfl rfl) ?_
  refine Dr.ld 3 rfl rfl (by kernel_rfl) (ev_load1 rfl rfl) (eng_cell fun _ _ _ => rfl) ?_
  refine Dr.p 4 rfl rfl (by kernel_rfl) (ev_field (off := 0) rfl rfl) ?_
  refine Dr.ld 5 rfl rfl (by kernel_rfl) (ev_load1 rfl rfl) (cellIs rfl) ?_
  refine Dr.p 6 rfl rfl (by kernel_rfl) (ev_field (off := 1) rfl rfl) ?_
  refine Dr.ld 7 rfl rfl (by kernel_rfl) (ev_load1 rfl rfl) (cellIs rfl) ?_
  refine Dr.p 8 rfl rfl (by kernel_rfl) (ev_build (cs := #[.int .u64 id, .int .i64 (k : Int), .int .i64 1]) rfl rfl rfl rfl rfl) ?_
  refine Dr.p 9 rfl rfl (by kernel_rfl) (ev_move rfl) ?_
  refine Dr.p 10 rfl rfl (by kernel_rfl) (ev_field (off := 1) rfl rfl) ?_
  refine Dr.ld 11 rfl rfl (by kernel_rfl) (ev_load1 rfl rfl) (cellIs rfl) ?_
  refine Dr.run 12 rfl rfl (by kernel_rfl) (o_call rfl rfl rfl hE (after_does (S := U) nd.close (by omega) hc0 hc) (Ent.refl _) ?_)
  rintro v m ⟨rfl, rfl⟩
  refine At.app1 ?_
  refine Dr.kept [false, true, true, true] (by kernel_rfl) (Kept.cons (cellIs rfl) (Kept.cons (cellIs rfl) (Kept.cons (eng_cell fun _ _ _ => rfl) Kept.nil))) ?_
  refine Dr.run 13 rfl rfl (by kernel_rfl) (o_call rfl rfl rfl hE (set_eng ⟨id, (k : Int), 1⟩ (U.later nd.close.toNat) (hlat U _ (by omega)) (hlat2 U _) (by omega) (by rw [hUt]; omega)) (Ent.refl _) ?_)
  rintro v m ⟨rfl, rfl⟩
  refine At.app1 ?_
  refine Dr.kept [true, true, false] (by kernel_rfl) (Kept.cons (cellIs rfl) (Kept.cons (cellIs rfl) Kept.nil)) ?_
  refine Dr.done (by kernel_rfl) ?_
  refine At.then ?_
  refine At.seq ?_
  obtain ⟨V, hV⟩ : ∃ V, V = U.setT ⟨id, (k : Int), 1⟩ (U.later nd.close.toNat) := ⟨_, rfl⟩
  rw [← hV]
  have hRV : V.getR id = some R1 := by rw [hV]; exact hRU
  have hVn : V.now = S.now := by rw [hV]; exact hUn
  have hVs : V.sets = S.sets + 1 := by rw [hV]; show U.sets + 1 = _; rw [hUs]
  have hVt : V.tms.length ≤ S.tms.length + 1 := by
    rw [hV]
    show (U.tms.filter (fun x : FK.KD => x.1 != ⟨id, (k : Int), 1⟩) ++ [((⟨id, (k : Int), 1⟩ : FK.Pl), U.later nd.close.toNat)]).length ≤ _
    have := List.length_filter_le (fun x : FK.KD => x.1 != ⟨id, (k : Int), 1⟩) U.tms
    rw [List.length_append, List.length_singleton, ← hUt]
    omega
  refine At.region ?_
  refine L.mv rfl rfl ?_
  refine L.val rfl (ev_loadN (vs := plL ⟨id, (k : Int), 0⟩) rfl rfl rfl rfl) (rowAll rfl) ?_
  refine L.val rfl (ev_loadN (vs := nodeCells nd (.slice A nd.after.length c)) rfl rfl rfl rfl) (rowAll rfl) ?_
  refine L.op rfl (o_call rfl rfl rfl hE (life_does (S := V) ⟨id, (k : Int), 0⟩ nd (.slice A nd.after.length c) (by omega) hb (by omega) (by omega)) (Ent.refl _) ?_)
  rintro v m ⟨rfl, rfl⟩
  refine At.app1 ?_
  refine L.nil ?_
  refine At.then ?_
  refine At.seq ?_
  obtain ⟨X, hX⟩ : ∃ X, X = V.life ⟨id, (k : Int), 0⟩ nd := ⟨_, rfl⟩
  have hRX : X.getR id = some R1 := by rw [hX, life_R]; exact hRV
  rw [← hX]
  refine Dr.start rfl ?_
  refine Dr.p 0 rfl rfl (by kernel_rfl) (ev_field (off := 0) rfl rfl) ?_
  refine Dr.ld 1 rfl rfl (by kernel_rfl) (ev_load1 rfl rfl) (cellIs rfl) ?_
  refine Dr.p 2 rfl rfl (by kernel_rfl) (ev_field (off := 1) rfl rfl) ?_
  refine Dr.ld 3 rfl rfl (by kernel_rfl) (ev_load1 rfl rfl) (cellIs rfl) ?_
  refine Dr.p 4 rfl rfl (by kernel_rfl) (ev_move rfl) ?_
  refine Dr.p 5 rfl rfl (by kernel_rfl) (ev_nil rfl) ?_
  refine Dr.p 6 rfl rfl (by kernel_rfl) (ev_field (off := 1) rfl rfl) ?_
  refine Dr.ld 7 rfl rfl (by kernel_rfl) (ev_load1 (v := .int .i64 (s.tries + 1)) rfl rfl) (step_cell hRX hs1 rfl) ?_
  refine Dr.p 8 rfl rfl (by kernel_rfl) (ev_move rfl) ?_
  refine Dr.p 9 rfl rfl (by kernel_rfl) (ev_nil rfl) ?_
  refine Dr.p 10 rfl rfl (by kernel_rfl) (ev_field (off := 2) rfl rfl) ?_
  refine Dr.ld 11 rfl rfl (by kernel_rfl) (ev_load1 (v := .int .u64 S2.lastToken) rfl rfl) (step_cell hRX hs1 rfl) ?_
  refine Dr.p 12 rfl rfl (by kernel_rfl) (ev_build (cs := (taskL id k (s.tries + 1) S2.lastToken).toArray) rfl rfl rfl rfl rfl) ?_
  refine Dr.run 13 rfl rfl (by kernel_rfl) (o_storeN (vs := taskL id k (s.tries + 1) S2.lastToken) rfl (m := 4) rfl rfl rfl rfl (by simp [Value.oneCell']) (by show 0 + 4 ≤ 4; omega) ?_)
  refine Dr.kept [false, false, false, false] (by kernel_rfl) Kept.nil ?_
  refine Dr.p 14 rfl rfl (by kernel_rfl) (ev_assign rfl) ?_
  refine Dr.done (by kernel_rfl) ?_
  refine At.then ?_
  refine At.ret ?_
  have hfin : X = S.hand ⟨id, (k : Int), 0⟩ q R s nd := by rw [hX, hV, hU, hS3, hRd, hlt2, hS2, hS1]; rfl
  exact At.res2 [engX e p X] rfl (Res.cellN (vs := taskL id k (s.tries + 1) S2.lastToken) rfl rfl rfl rfl (rowAll rfl)) (Res.tmp rfl) ⟨by rw [hlt2], by rw [hfin]⟩ (Ent.drop.trans (Ent.cons (Ent.drop.trans Ent.drop)))
end Go.Proofs.YtmeegfamopaljaaGreatDoor
