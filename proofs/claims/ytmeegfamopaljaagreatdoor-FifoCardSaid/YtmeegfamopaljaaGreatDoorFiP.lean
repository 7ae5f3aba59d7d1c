/- The engine in memory turned: its cells, runs, steps; contracts of its parts lifted. -/
import Derived.Test.YtmeegfamopaljaaGreatDoorFiO
import Derived.Scope
namespace Go.SL
open Go Go.RowKit
section
variable {P : Program} {G : Env → Prop}
theorem Does.part {f : FuncId} {args : Array Value} {pre pre' c : List HP} {R R' : Value → List HP → Prop} (h : Does P G f args pre R) (e : Ent pre' (pre ++ c)) (hR : ∀ v m, R v m → ∃ m', R' v m' ∧ Ent (m ++ c) m') : Does P G f args pre' R' := fun E w fr hE hw => by
  have h1 := (h.frame c).mono (R' := R') fun v m ⟨m', h1, h2⟩ => by subst h2; exact hR v m' h1
  exact h1 E w fr hE (hw.ent (e.append fr))
end
end Go.SL
namespace Go.Proofs.YtmeegfamopaljaaGreatDoor
open Go Go.RowKit Go.SL
variable {G : Env → Prop}
theorem setR_keys (S : FK.En) (id : Nat) (R : FK.Rn) : (S.setR id R).runs.map (·.1) = S.runs.map (·.1) := by
  unfold FK.En.setR
  simp only [List.map_map]
  refine List.map_congr_left fun x _ => ?_
  simp only [Function.comp_apply]
  split <;> rfl
theorem getR_split {S : FK.En} {id : Nat} {R : FK.Rn} (h : S.getR id = some R) (hn : EngOk S) : ∃ a b, S.runs = a ++ (id, R) :: b ∧ ∀ R', (S.setR id R').runs = a ++ (id, R') :: b := by
  obtain ⟨a, b, hab⟩ := List.append_of_mem (getR_mem h)
  refine ⟨a, b, hab, fun R' => ?_⟩
  have hn' := hn
  unfold EngOk at hn'
  rw [hab, List.map_append, List.map_cons] at hn'
  have hd := List.nodup_append.1 hn'
  have ha : ∀ x ∈ a, (x.1 == id) = false := fun x hx => by
    have := hd.2.2 x.1 (List.mem_map_of_mem hx) id (by simp)
    simpa using this
  have hb : ∀ x ∈ b, (x.1 == id) = false := fun x hx => by
    have h1 := (List.nodup_cons.1 hd.2.1).1
    have : x.1 ≠ id := fun e => h1 (List.mem_map.2 ⟨x, hx, e⟩)
    simpa using this
  have ma : (a.map fun r => if r.1 == id then (r.1, R') else r) = a := by
    conv => rhs; rw [← List.map_id a]
    exact List.map_congr_left fun x hx => by simp [ha x hx]
  have mb : (b.map fun r => if r.1 == id then (r.1, R') else r) = b := by
    conv => rhs; rw [← List.map_id b]
    exact List.map_congr_left fun x hx => by simp [hb x hx]
  show S.runs.map _ = _
  rw [hab, List.map_append, List.map_cons, ma, mb]
  simp
theorem setR_ok {S : FK.En} {id : Nat} {R : FK.Rn} (h : EngOk S) : EngOk (S.setR id R) := by
  unfold EngOk
  rw [setR_keys]
  exact h
theorem setR_M (S : FK.En) (id : Nat) (R : FK.Rn) (p : EA) : runM (S.setR id R) p = runM S p := by
  have h : ∀ l : List (Nat × FK.Rn), (l.map fun r => (r.1, ptr (p.fb r.1))) = (l.map (·.1)).map fun k => (k, ptr (p.fb k)) := fun l => by rw [List.map_map]; rfl
  unfold runM
  rw [h, h, setR_keys]
abbrev restL (e : Nat) (p : EA) (S : FK.En) (a b : List (Nat × FK.Rn)) : List HP := [ringE e (ecOf S p) S.queue, vmap natV p.rm (runM S p), runsX p (a ++ b), vmap natV p.tm (taskM S), wheelE p.w S.now S.sets S.tms]
theorem Ent.openRun {e : Nat} {p : EA} {S : FK.En} {id : Nat} {R : FK.Rn} {a b : List (Nat × FK.Rn)} {r : List HP} (h : S.runs = a ++ (id, R) :: b) : Ent (engX e p S :: r) (runL (p.fb id) (p.ra id) R ++ (restL e p S a b ++ r)) := by
  refine Ent.unall.trans ?_
  refine (Ent.drop (p := HP.pure (EngOk S))).trans ?_
  have h1 : Ent (runsX p S.runs :: vmap natV p.tm (taskM S) :: wheelE p.w S.now S.sets S.tms :: r) (runX (p.fb id) (p.ra id) R :: runsX p (a ++ b) :: vmap natV p.tm (taskM S) :: wheelE p.w S.now S.sets S.tms :: r) := by
    refine (Ent.unall (m := runsL p S.runs)).trans ?_
    have hp : ((runsL p S.runs) ++ (vmap natV p.tm (taskM S) :: wheelE p.w S.now S.sets S.tms :: r)).Perm (runX (p.fb id) (p.ra id) R :: (runsL p (a ++ b) ++ (vmap natV p.tm (taskM S) :: wheelE p.w S.now S.sets S.tms :: r))) := by
      rw [h]
      have h0 := (List.perm_middle (a := (id, R)) (l₁ := a) (l₂ := b)).map fun r => runX (p.fb r.1) (p.ra r.1) r.2
      rw [List.map_cons] at h0
      exact h0.append_right _
    exact (Ent.perm hp).trans (Ent.cons (Ent.all (m := runsL p (a ++ b))))
  refine (Ent.cons (Ent.cons h1)).trans ?_
  exact (Ent.sel (.tail (.tail .head))).trans (Ent.unall (m := runL (p.fb id) (p.ra id) R))
theorem Ent.closeRun {e : Nat} {p : EA} {S : FK.En} {id : Nat} {R' : FK.Rn} {a b : List (Nat × FK.Rn)} {r : List HP} (hn : EngOk S) (h : (S.setR id R').runs = a ++ (id, R') :: b) : Ent (runL (p.fb id) (p.ra id) R' ++ (restL e p S a b ++ r)) (engX e p (S.setR id R') :: r) := by
  refine (Ent.all (m := runL (p.fb id) (p.ra id) R')).trans ?_
  have h1 : Ent (runX (p.fb id) (p.ra id) R' :: runsX p (a ++ b) :: vmap natV p.tm (taskM S) :: wheelE p.w S.now S.sets S.tms :: r) (runsX p (S.setR id R').runs :: vmap natV p.tm (taskM S) :: wheelE p.w S.now S.sets S.tms :: r) := by
    refine (Ent.cons (Ent.unall (m := runsL p (a ++ b)))).trans ?_
    have hp : (runX (p.fb id) (p.ra id) R' :: (runsL p (a ++ b) ++ (vmap natV p.tm (taskM S) :: wheelE p.w S.now S.sets S.tms :: r))).Perm ((runsL p (S.setR id R').runs) ++ (vmap natV p.tm (taskM S) :: wheelE p.w S.now S.sets S.tms :: r)) := by
      rw [h]
      have h0 := ((List.perm_middle (a := (id, R')) (l₁ := a) (l₂ := b)).map fun r => runX (p.fb r.1) (p.ra r.1) r.2).symm
      rw [List.map_cons] at h0
      exact h0.append_right _
    exact (Ent.perm hp).trans (Ent.all (m := runsL p (S.setR id R').runs))
  refine (Ent.sel3 (.tail .head) (.tail .head) .head).trans ((Ent.cons (Ent.cons h1)).trans ?_)
  refine (Ent.pure (setR_ok (id := id) (R := R') hn)).trans ?_
  have hm : vmap natV p.rm (runM S p) = vmap natV p.rm (runM (S.setR id R') p) := by rw [setR_M]
  rw [hm]
  exact Ent.all (m := engL e p (S.setR id R'))
section
variable {P : Program} {E : Env} {n : Nat} {D : List Deferred} {ts : List (Nat × Value)} {l r : List HP} {Q : Exit → Act → World → Prop} {ty : TypeId} {pos : String} {af : Array Edge} {g : Option (Nat × Bool)} {t : TypeId} {x y : Operand} {e : Nat} {p : EA} {S : FK.En} {K : Act → World → Prop} [H : HasEng l e p S r]
theorem o_stStep {id k j o : Nat} {R : FK.Rn} {s s' : FK.Sp} {v : Value} (hR : S.getR id = some R) (hs : R.steps[k]? = some s) (hz : sizeIs P t 1) (hx : ev ts x = some (.pointer (some ⟨(p.ra id).gs, o, none⟩))) (hy : ev ts y = some v) (ho : o = 0 + k * 3 + j) (hj : j < 3) (hv : v.oneCell' = true) (hset : (spL s).set j v = spL s')
    (hk : At E n D ts (engX e p (S.setR id (R.setS k s')) :: r) K) : At E n D ts l (fun a w => (Oper.mk none (.store t x y) ty pos af g).wp P a w K Q) := by
  refine At.fact (p := EngOk S) (fun w hw => eng_ok hw) fun hn => ?_
  obtain ⟨a, b, hab, hset'⟩ := getR_split hR hn
  refine At.ent ((Ent.sel H.sel).trans (Ent.openRun hab)) ?_
  have hkl := (List.getElem?_eq_some_iff.1 hs).1
  refine o_storeRow (l := runL (p.fb id) (p.ra id) R ++ (restL e p S a b ++ r)) (.tail (.tail (.tail (.tail .head)))) hz hx hy hv (by omega) ?_
  refine At.ent ?_ hk
  subst ho
  rw [spV_set1 hs hj hset]
  refine Ent.trans ?_ (Ent.closeRun hn (hset' (R.setS k s')))
  have hl : (R.setS k s').steps.length = R.steps.length := by simp [FK.Rn.setS]
  refine ((Ent.sel3 (.tail .head) (.tail .head) (.tail .head)).trans (Ent.cons (Ent.cons (Ent.cons (Ent.sel (.tail .head)))))).trans ?_
  show Ent (HP.pure ((p.ra id).vs.length = R.fl.nodes.length) :: runB (p.fb id) (p.ra id) R :: row 46 7 ((p.ra id).nv R) R.fl.nodes.length (nodesV R.fl.nodes (p.ra id).vs) :: aftsAll (p.ra id).vs R.fl.nodes :: row 265 3 ((p.ra id).sv R) R.steps.length (spV (R.steps.set k s')) :: (restL e p S a b ++ r)) (HP.pure ((p.ra id).vs.length = R.fl.nodes.length) :: blk (p.fb id) 263 #[.int .i64 R.fl.deadline, (p.ra id).nv R, .int .i64 R.state, .slice (some ⟨(p.ra id).gs, 0, none⟩) (R.setS k s').steps.length (p.ra id).cs, .int .u64 R.ended] :: row 46 7 ((p.ra id).nv R) R.fl.nodes.length (nodesV R.fl.nodes (p.ra id).vs) :: aftsAll (p.ra id).vs R.fl.nodes :: row 265 3 (.slice (some ⟨(p.ra id).gs, 0, none⟩) (R.setS k s').steps.length (p.ra id).cs) (R.setS k s').steps.length (spV (R.steps.set k s')) :: (restL e p S a b ++ r))
  rw [hl]
  exact Ent.refl _
theorem o_stStepN {id k o : Nat} {R : FK.Rn} {s s' : FK.Sp} (hR : S.getR id = some R) (hs : R.steps[k]? = some s) (hz : sizeIs P t 3) (hx : ev ts x = some (.pointer (some ⟨(p.ra id).gs, o, none⟩))) (hy : ev ts y = some (.agg (spL s').toArray)) (ho : o = 0 + k * 3)
    (hk : At E n D ts (engX e p (S.setR id (R.setS k s')) :: r) K) : At E n D ts l (fun a w => (Oper.mk none (.store t x y) ty pos af g).wp P a w K Q) := by
  refine At.fact (p := EngOk S) (fun w hw => eng_ok hw) fun hn => ?_
  obtain ⟨a, b, hab, hset'⟩ := getR_split hR hn
  refine At.ent ((Ent.sel H.sel).trans (Ent.openRun hab)) ?_
  have hkl := (List.getElem?_eq_some_iff.1 hs).1
  refine o_storeRowN (l := runL (p.fb id) (p.ra id) R ++ (restL e p S a b ++ r)) (vs := spL s') (.tail (.tail (.tail (.tail .head)))) hz rfl hx hy (by intro u hu; simp only [List.mem_cons, List.not_mem_nil, or_false] at hu; rcases hu with rfl | rfl | rfl <;> rfl) (by omega) ?_
  refine At.ent ?_ hk
  subst ho
  rw [spV_set hkl]
  refine Ent.trans ?_ (Ent.closeRun hn (hset' (R.setS k s')))
  have hl : (R.setS k s').steps.length = R.steps.length := by simp [FK.Rn.setS]
  refine ((Ent.sel3 (.tail .head) (.tail .head) (.tail .head)).trans (Ent.cons (Ent.cons (Ent.cons (Ent.sel (.tail .head)))))).trans ?_
  show Ent (HP.pure ((p.ra id).vs.length = R.fl.nodes.length) :: runB (p.fb id) (p.ra id) R :: row 46 7 ((p.ra id).nv R) R.fl.nodes.length (nodesV R.fl.nodes (p.ra id).vs) :: aftsAll (p.ra id).vs R.fl.nodes :: row 265 3 ((p.ra id).sv R) R.steps.length (spV (R.steps.set k s')) :: (restL e p S a b ++ r)) (HP.pure ((p.ra id).vs.length = R.fl.nodes.length) :: blk (p.fb id) 263 #[.int .i64 R.fl.deadline, (p.ra id).nv R, .int .i64 R.state, .slice (some ⟨(p.ra id).gs, 0, none⟩) (R.setS k s').steps.length (p.ra id).cs, .int .u64 R.ended] :: row 46 7 ((p.ra id).nv R) R.fl.nodes.length (nodesV R.fl.nodes (p.ra id).vs) :: aftsAll (p.ra id).vs R.fl.nodes :: row 265 3 (.slice (some ⟨(p.ra id).gs, 0, none⟩) (R.setS k s').steps.length (p.ra id).cs) (R.setS k s').steps.length (spV (R.steps.set k s')) :: (restL e p S a b ++ r))
  rw [hl]
  exact Ent.refl _
theorem o_stRun {id i : Nat} {R R' : FK.Rn} {v : Value} (hR : S.getR id = some R) (hz : sizeIs P t 1) (hx : ev ts x = some (.pointer (some ⟨p.fb id, i, none⟩))) (hy : ev ts y = some v) (hi : i < 5) (hv : v.oneCell' = true) (hfl : R'.fl = R.fl) (hst : R'.steps = R.steps) (hset : (runC (p.ra id) R).setIfInBounds i v = runC (p.ra id) R')
    (hk : At E n D ts (engX e p (S.setR id R') :: r) K) : At E n D ts l (fun a w => (Oper.mk none (.store t x y) ty pos af g).wp P a w K Q) := by
  refine At.fact (p := EngOk S) (fun w hw => eng_ok hw) fun hn => ?_
  obtain ⟨a, b, hab, hset'⟩ := getR_split hR hn
  refine At.ent ((Ent.sel H.sel).trans (Ent.openRun hab)) ?_
  refine At.ent (Ent.sel (.tail .head)) ?_
  refine o_store1 (b := p.fb id) (cs := runC (p.ra id) R) rfl hz hx hy hv (by simpa using hi) ?_
  rw [hset]
  refine At.ent ?_ hk
  refine Ent.trans ?_ (Ent.closeRun hn (hset' R'))
  refine (Ent.sel (.tail .head)).trans ?_
  unfold runL RA.nv RA.sv
  rw [hfl, hst]
  exact Ent.refl _
theorem o_stEng {i : Nat} {S' : FK.En} {v : Value} (hz : sizeIs P t 1) (hx : ev ts x = some (.pointer (some ⟨e, i, none⟩))) (hy : ev ts y = some v) (hi : i < 10) (hv : v.oneCell' = true) (hset : ∀ rv f n, (engC (ecOf S p) rv f n).setIfInBounds i v = engC (ecOf S' p) rv f n)
    (h1 : S'.queue = S.queue) (h2 : S'.runs = S.runs) (h3 : S'.tasks = S.tasks) (h4 : S'.now = S.now) (h5 : S'.sets = S.sets) (h6 : S'.tms = S.tms) (hk : At E n D ts (engX e p S' :: r) K) : At E n D ts l (fun a w => (Oper.mk none (.store t x y) ty pos af g).wp P a w K Q) := by
  refine At.ent (Ent.sel H.sel) (At.openAll ?_)
  refine o_storeE (h := ⟨.tail .head⟩) (e := e) (i := i) (C := ecOf S p) (C' := ecOf S' p) hz hx hy hv hi hset ?_
  refine At.ent ?_ hk
  refine Ent.trans ?_ (Ent.all (m := engL e p S'))
  unfold engL EngOk runM taskM
  rw [h1, h2, h3, h4, h5, h6]
  exact Ent.sel (.tail .head)
end
section
variable {e : Nat} {p : EA} {S : FK.En}
theorem Does.ring {f : FuncId} {args : Array Value} {R : Value → List HP → Prop} {R' : Value → List HP → Prop} (h : Does Tryz.prog G f args [ringE e (ecOf S p) S.queue] R) (hR : ∀ v m, R v m → ∃ q, m = [ringE e (ecOf S p) q] ∧ R' v [engX e p { S with queue := q }]) : Does Tryz.prog G f args [engX e p S] R' := by
  refine Does.part (c := [HP.pure (EngOk S), vmap natV p.rm (runM S p), runsX p S.runs, vmap natV p.tm (taskM S), wheelE p.w S.now S.sets S.tms]) h ((Ent.unall (m := engL e p S)).trans (Ent.sel (.tail .head))) fun v m hm => ?_
  obtain ⟨q, rfl, h2⟩ := hR v m hm
  exact ⟨_, h2, (Ent.sel (.tail .head)).trans (Ent.all (m := engL e p { S with queue := q }))⟩
theorem rpush_eng (q : FK.Pl) (hq : S.queue.length ≤ 400) : Does Tryz.prog G 175 [rptr e, plV q].toArray [engX e p S] fun v m => v = .tuple #[] ∧ m = [engX e p { S with queue := S.queue ++ [q] }] :=
  Does.ring (rpush_does e _ q hq) fun _ _ ⟨h1, h2⟩ => ⟨_, h2, h1, rfl⟩
theorem rlen_eng : Does Tryz.prog G 161 [rptr e].toArray [engX e p S] fun v m => v = .int .i64 S.queue.length ∧ m = [engX e p S] :=
  Does.ring (rlen_does e _) fun _ _ ⟨h1, h2⟩ => ⟨S.queue, h2, h1, rfl⟩
theorem rat_eng {k : Nat} {q : FK.Pl} (hq : S.queue[k]? = some q) : Does Tryz.prog G 162 [rptr e, .int .i64 k].toArray [engX e p S] fun v m => v = plV q ∧ m = [engX e p S] :=
  Does.ring (rat_does e _ hq) fun _ _ ⟨h1, h2⟩ => ⟨S.queue, h2, h1, rfl⟩
theorem wheel_star {w : World} {w0 now sets : Nat} {tms : List FK.KD} {F : Nat → Prop} (h : (wheelE w0 now sets tms).sat w F) : ∃ W, WOk now sets tms W ∧ (wheelAt w0 W).sat w F := by
  obtain ⟨W, h1⟩ := h
  refine ⟨W, ?_, ?_⟩
  · have := Star.mem (p := HP.pure (WOk now sets tms W)) (l := [HP.pure (WOk now sets tms W), wheelAt w0 W]) h1 (by simp)
    exact this
  · exact Star.mem (l := [HP.pure (WOk now sets tms W), wheelAt w0 W]) h1 (by simp)
theorem Does.wheel {f : FuncId} {args : Array Value} {R' : Value → List HP → Prop} (h : ∀ W, WOk S.now S.sets S.tms W → Does Tryz.prog G f args [wheelAt p.w W] fun v m => ∃ W' now sets tms, m = [wheelAt p.w W'] ∧ WOk now sets tms W' ∧ R' v [engX e p { S with now := now, sets := sets, tms := tms }]) : Does Tryz.prog G f args [engX e p S] R' := by
  refine Does.part (pre := [wheelE p.w S.now S.sets S.tms]) (R := fun v m => ∃ now sets tms, m = [wheelE p.w now sets tms] ∧ R' v [engX e p { S with now := now, sets := sets, tms := tms }]) (c := [HP.pure (EngOk S), ringE e (ecOf S p) S.queue, vmap natV p.rm (runM S p), runsX p S.runs, vmap natV p.tm (taskM S)]) ?_ ((Ent.unall (m := engL e p S)).trans (Ent.sel (.tail (.tail (.tail (.tail (.tail .head))))))) ?_
  · intro E w fr hE hw
    obtain ⟨F1, F2, h1, h2, hd, hp, hl⟩ := hw.star
    obtain ⟨W, hW, hs⟩ := wheel_star hp
    refine (((h W hW).mono (R' := fun v m => ∃ now sets tms, m = [wheelE p.w now sets tms] ∧ R' v [engX e p { S with now := now, sets := sets, tms := tms }]) ?_)) E w fr hE ⟨hw.is, F1, F2, h1, h2, hd, hs, hl⟩
    rintro v m ⟨W', now, sets, tms, rfl, hW', hR⟩
    refine ⟨_, ⟨now, sets, tms, rfl, hR⟩, ?_⟩
    exact (Ent.pure hW').trans ((Ent.all (m := [HP.pure (WOk now sets tms W'), wheelAt p.w W'])).trans (Ent.ex (f := fun W : FK.WS => HP.all [HP.pure (WOk now sets tms W), wheelAt p.w W]) W'))
  · rintro v m ⟨now, sets, tms, rfl, hR⟩
    refine ⟨_, hR, ?_⟩
    refine Ent.trans ?_ (Ent.all (m := engL e p { S with now := now, sets := sets, tms := tms }))
    exact (Ent.sel3 (.tail .head) (.tail .head) (.tail .head)).trans (Ent.cons (Ent.cons (Ent.cons (Ent.sel2 (.tail .head) (.tail .head)))))
theorem now_eng : Does Tryz.prog G 180 [ptr p.w].toArray [engX e p S] fun v m => v = .int .u64 S.now ∧ m = [engX e p S] := by
  refine Does.wheel fun W hW => (now_does p.w).mono ?_
  rintro v m ⟨rfl, rfl⟩
  exact ⟨_, ⟨W, S.now, S.sets, S.tms, rfl, hW, by rw [hW.now], rfl⟩, Ent.refl _⟩
theorem drop_eng (k : FK.Pl) (hl : S.tms.length ≤ 99999) : Does Tryz.prog G 202 [ptr p.w, plV k].toArray [engX e p S] fun v m => v = .tuple #[] ∧ m = [engX e p (S.unset k)] := by
  refine Does.wheel fun W hW => (drop_any p.w k hW.inv (by have := congrArg List.length hW.tms; rw [List.length_map] at this; omega)).mono ?_
  rintro v m ⟨rfl, W', h1, h2, h3, h4, rfl⟩
  exact ⟨_, ⟨W', S.now, S.sets, S.tms.filter fun x => x.1 != k, rfl, ⟨h2.trans hW.now, h3 ▸ hW.seq, h1, by rw [h4, hW.tms]⟩, rfl, rfl⟩, Ent.refl _⟩
theorem set_eng (k : FK.Pl) (a : Nat) (h1 : S.now ≤ a) (h2 : a ≤ 4611686018427387904) (h3 : S.sets < 9223372036854775807) (hl : S.tms.length ≤ 99998) : Does Tryz.prog G 158 [ptr p.w, plV k, .int .u64 a].toArray [engX e p S] fun v m => v = .tuple #[] ∧ m = [engX e p (S.setT k a)] := by
  refine Does.wheel fun W hW => (set_any p.w k a hW.inv (hW.now ▸ h1) h2 (Nat.lt_of_le_of_lt hW.seq h3) (by have := congrArg List.length hW.tms; rw [List.length_map] at this; omega)).mono ?_
  rintro v m ⟨rfl, W', g1, g2, g3, g4, rfl⟩
  exact ⟨_, ⟨W', S.now, S.sets + 1, S.tms.filter (fun x => x.1 != k) ++ [(k, a)], rfl, ⟨g2.trans hW.now, by rw [g3]; exact Nat.succ_le_succ hW.seq, g1, by rw [g4, hW.tms]⟩, rfl, rfl⟩, Ent.refl _⟩
end
end Go.Proofs.YtmeegfamopaljaaGreatDoor

namespace Go.Proofs.YtmeegfamopaljaaGreatDoor
open Go Go.RowKit Go.SL
variable {G : Env → Prop}
set_option maxRecDepth 10000 in
theorem index_does (xs : List Int) (A : Option Addr) (c : Nat) (v : Int) : Does Tryz.prog G 254 [.slice A xs.length c, .int .i64 v].toArray [intsAt (.slice A xs.length c) xs] fun u m => (∃ i : Int, u = .int .i64 i ∧ (0 ≤ i ↔ v ∈ xs)) ∧ m = [intsAt (.slice A xs.length c) xs] := by
  refine Does.body Tryz.func254 rfl rfl fun E fr hE => ?_
  refine At.app1 ?_
  refine At.formRow .head ?_
  intro A' c' hA hnil hform hc1 hc2 _
  injection hA with hA _ hcc
  subst hA; subst hcc
  replace hc2 : c ≤ 9223372036854775807 := hc2
  refine At.seq ?_
  refine At.region ?_
  refine L.as rfl rfl ?_
  refine L.nil ?_
  refine At.then ?_
  refine At.seq ?_
  refine At.seq ?_
  refine At.region ?_
  refine L.mv rfl rfl ?_
  refine L.pure rfl (ev_lenS rfl rfl) ?_
  refine L.mv rfl rfl ?_
  refine L.nil ?_
  refine At.then ?_
  refine At.block ?_
  refine At.loop (X := Nat) (fun k => [(8, .int .i64 k), (7, .int .i64 xs.length), (0, .slice A xs.length c), (1, .int .i64 v)]) (fun _ => intsAt (.slice A xs.length c) xs :: fr) (fun k => k ≤ xs.length ∧ ∀ j, j < k → xs[j]? ≠ some v) (fun k => xs.length - k) 0 ⟨by omega, fun j hj => by omega⟩ ⟨rfl, rfl, rfl, rfl, trivial⟩ (Ent.refl _) ?_
  rintro k ⟨hk, hne⟩
  refine At.seq ?_
  refine At.region ?_
  refine L.pure rfl (ev_lss rfl rfl rfl) ?_
  refine L.nil ?_
  refine At.then ?_
  refine At.seq ?_
  refine At.condD rfl (fun c9 => ?_) (fun c9 => ?_)
  ·
    have hlt : k < xs.length := by omega
    obtain ⟨g, rfl⟩ : ∃ g, A = some ⟨g, 0, none⟩ := by
      cases A with
      | none => have := (hnil rfl).1; omega
      | some ad => obtain ⟨g, rfl⟩ := hform ad rfl; exact ⟨g, rfl⟩
    obtain ⟨o, ho⟩ : ∃ o, xs[k]? = some o := ⟨xs[k], by simp [hlt]⟩
    refine At.skip ?_
    refine At.then ?_
    refine At.seq ?_
    refine At.block ?_
    refine At.seq ?_
    refine At.region ?_
    refine L.mv rfl rfl ?_
    refine L.as rfl rfl ?_
    refine L.nil ?_
    refine At.then ?_
    refine At.seq ?_
    refine At.region ?_
    refine L.mv rfl rfl ?_
    refine L.mv rfl rfl ?_
    refine L.mv rfl rfl ?_
    refine L.pure rfl (ev_ixN (z := 1) rfl rfl rfl rfl hlt) ?_
    refine L.val rfl (ev_load1 (v := .int .i64 o) rfl rfl) (cellIn .head (by rw [Nat.zero_add, Nat.mul_one, intsV, List.getElem?_map, ho]; rfl)) ?_
    refine L.pure rfl (ev_eql rfl rfl rfl) ?_
    refine L.nil ?_
    refine At.then ?_
    refine At.condD rfl (fun c16 => ?_) (fun c16 => ?_)
    ·
      subst c16
      refine At.seq ?_
      refine At.region ?_
      refine L.mv rfl rfl ?_
      refine L.as rfl rfl ?_
      refine L.nil ?_
      refine At.then ?_
      refine At.ret ?_
      refine At.inBlockRet (At.thenRet (At.roundRet (At.inBlockRet (At.thenRet ?_))))
      exact At.ret1 [_] rfl rfl ⟨⟨_, rfl, by simp [List.mem_of_getElem? ho]⟩, rfl⟩ (Ent.refl _)
    ·
      refine At.skip ?_
      refine At.inBlock (At.then ?_)
      refine At.region ?_
      refine L.pure rfl (ev_add (r := ((k + 1 : Nat) : Int)) rfl rfl (by rw [w64 (by omega)]; omega)) ?_
      refine L.mv rfl rfl ?_
      refine L.nil ?_
      exact At.round (k + 1) ⟨hlt, fun j hj => (by rcases Nat.lt_succ_iff_lt_or_eq.1 hj with h | rfl; exact hne j h; rw [ho]; intro h; injection h with h; exact c16 h.symm)⟩ (by omega) ⟨rfl, rfl, rfl, rfl, trivial⟩ (Ent.refl _)
  ·
    refine At.exit ?_
    refine At.thenExit (At.roundExit (At.inBlockHit (At.then ?_)))
    refine At.seq ?_
    refine At.region ?_
    refine L.as rfl rfl ?_
    refine L.nil ?_
    refine At.then ?_
    refine At.ret ?_
    refine At.ret1 [_] rfl rfl ⟨⟨_, rfl, ?_⟩, rfl⟩ (Ent.refl _)
    have : v ∉ xs := fun h => by
      obtain ⟨j, hj, e⟩ := List.getElem_of_mem h
      exact hne j (by omega) (by simp [hj, e])
    simp [this]
set_option maxRecDepth 10000 in
theorem contains_does (xs : List Int) (A : Option Addr) (c : Nat) (v : Int) : Does Tryz.prog G 231 [.slice A xs.length c, .int .i64 v].toArray [intsAt (.slice A xs.length c) xs] fun u m => u = .bool (decide (v ∈ xs)) ∧ m = [intsAt (.slice A xs.length c) xs] := by
  refine Does.body Tryz.func231 rfl rfl fun E fr hE => ?_
  refine At.app1 ?_
  refine At.seq ?_
  refine At.region ?_
  refine L.as rfl rfl ?_
  refine L.nil ?_
  refine At.then ?_
  refine At.seq ?_
  refine At.region ?_
  refine L.mv rfl rfl ?_
  refine L.mv rfl rfl ?_
  refine L.op rfl (o_call rfl rfl rfl hE (index_does xs A c v) (Ent.refl _) ?_)
  rintro v m ⟨⟨i, rfl, hi⟩, rfl⟩
  refine At.app1 ?_
  refine L.pure rfl (ev_geq rfl rfl rfl) ?_
  refine L.as rfl rfl ?_
  refine L.nil ?_
  refine At.then ?_
  refine At.ret ?_
  exact At.ret1 [_] rfl rfl ⟨by congr 1; exact decide_eq_decide.2 hi, rfl⟩ (Ent.refl _)
set_option maxRecDepth 10000 in
theorem is_gen {X : HP} {rb gs k n cs : Nat} {st : Int} (xs : List Int) (A : Option Addr) (c : Nat) (h1 : ∀ E w r, Holds E w (X :: r) → CellIs ⟨rb, 3, none⟩ (.slice (some ⟨gs, 0, none⟩) n cs) w) (h2 : ∀ E w r, Holds E w (X :: r) → CellIs ⟨gs, 0 + k * 3 + 0, none⟩ (.int .i64 st) w) (hk : k < n) : Does Tryz.prog G 204 [ptr rb, .int .i64 k, .slice A xs.length c].toArray [X, intsAt (.slice A xs.length c) xs] fun u m => u = .bool (decide (st ∈ xs)) ∧ m = [X] := by
  refine Does.body Tryz.func204 rfl rfl fun E fr hE => ?_
  refine At.app2 ?_
  refine At.seq ?_
  refine At.region ?_
  refine L.as rfl rfl ?_
  refine L.nil ?_
  refine At.then ?_
  refine At.seq ?_
  refine At.region ?_
  refine L.mv rfl rfl ?_
  refine L.mv rfl rfl ?_
  refine L.nc rfl rfl ?_
  refine L.fa 3 rfl rfl rfl ?_
  refine L.val rfl (ev_load1 (v := .slice (some ⟨gs, 0, none⟩) n cs) rfl rfl) (fun w hw => h1 _ _ _ hw) ?_
  refine L.mv rfl rfl ?_
  refine L.pure rfl (ev_ixN (z := 3) rfl rfl rfl rfl hk) ?_
  refine L.fa 0 rfl rfl rfl ?_
  refine L.val rfl (ev_load1 (v := .int .i64 st) rfl rfl) (fun w hw => h2 _ _ _ hw) ?_
  refine L.op rfl (o_call rfl rfl rfl hE (contains_does xs A c st) (Ent.sel (.tail (.head))) ?_)
  rintro v m ⟨rfl, rfl⟩
  refine At.app1 ?_
  refine L.as rfl rfl ?_
  refine L.nil ?_
  refine At.then ?_
  refine At.ret ?_
  exact At.ret1 [_] rfl rfl ⟨rfl, rfl⟩ Ent.drop
theorem is_does {e : Nat} {p : EA} {S : FK.En} {id k : Nat} {R : FK.Rn} {s : FK.Sp} (xs : List Int) (A : Option Addr) (c : Nat) (hR : S.getR id = some R) (hs : R.steps[k]? = some s) : Does Tryz.prog G 204 [ptr (p.fb id), .int .i64 k, .slice A xs.length c].toArray [engX e p S, intsAt (.slice A xs.length c) xs] fun u m => u = .bool (decide (s.state ∈ xs)) ∧ m = [engX e p S] :=
  is_gen (n := R.steps.length) (cs := (p.ra id).cs) (gs := (p.ra id).gs) xs A c (fun _E w _r hw => run_cell (i := 3) hR rfl w hw) (fun _E w _r hw => step_cell hR hs rfl w hw) (List.getElem?_eq_some_iff.1 hs).1
theorem is_under {e : Nat} {p : EA} {S : FK.En} {id k h : Nat} {R : FK.Rn} {s : FK.Sp} (xs : List Int) (A : Option Addr) (c : Nat) (hR : S.getR id = some R) (hs : R.steps[k]? = some s) : Does Tryz.prog G 204 [ptr (p.fb id), .int .i64 k, .slice A xs.length c].toArray [SL.under h (engX e p S), intsAt (.slice A xs.length c) xs] fun u m => u = .bool (decide (s.state ∈ xs)) ∧ m = [SL.under h (engX e p S)] :=
  is_gen (n := R.steps.length) (cs := (p.ra id).cs) (gs := (p.ra id).gs) xs A c (fun _E w _r hw => run_cell (i := 3) hR rfl w hw) (fun _E w _r hw => step_cell hR hs rfl w hw) (List.getElem?_eq_some_iff.1 hs).1
end Go.Proofs.YtmeegfamopaljaaGreatDoor

namespace Go.Proofs.YtmeegfamopaljaaGreatDoor
open Go Go.RowKit Go.SL
variable {G : Env → Prop}
set_option maxRecDepth 10000 in
theorem after_does {e : Nat} {p : EA} {S : FK.En} (span : Int) (h1 : S.now ≤ 4611686018427387904) (h0 : 0 ≤ span) (h2 : span ≤ 4611686018427387904) : Does Tryz.prog G 159 [ptr e, .int .i64 span].toArray [engX e p S] fun u m => u = .int .u64 (S.later span.toNat) ∧ m = [engX e p S] := by
  refine Does.body Tryz.func159 rfl rfl fun E fr hE => ?_
  refine At.app1 ?_
  refine At.seq ?_
  refine At.region ?_
  refine L.as rfl rfl ?_
  refine L.nil ?_
  refine At.then ?_
  refine At.seq ?_
  refine At.region ?_
  refine L.mv rfl rfl ?_
  refine L.nc rfl rfl ?_
  refine L.fa 6 rfl rfl rfl ?_
  refine L.val rfl (ev_load1 (v := ptr p.w) rfl rfl) (eng_cell fun _ _ _ => rfl) ?_
  refine L.op rfl (o_call rfl rfl rfl hE now_eng (Ent.refl _) ?_)
  rintro v m ⟨rfl, rfl⟩
  refine At.app1 ?_
  refine L.mv rfl rfl ?_
  refine L.pure rfl (ev_conv (r := span) rfl rfl rfl (by rw [mu64]; omega)) ?_
  refine L.pure rfl (ev_add (r := ((S.now + span.toNat : Nat) : Int)) rfl rfl (by rw [mu64]; omega)) ?_
  refine L.pure rfl (ev_min (r := ((S.later span.toNat : Nat) : Int)) rfl rfl (by unfold FK.En.later; omega)) ?_
  refine L.as rfl rfl ?_
  refine L.nil ?_
  refine At.then ?_
  refine At.ret ?_
  exact At.ret1 [_] rfl rfl ⟨rfl, rfl⟩ (Ent.refl _)
set_option maxRecDepth 10000 in
theorem life_does {e : Nat} {p : EA} {S : FK.En} (q : FK.Pl) (nd : FK.Node) (u : Value) (h1 : S.now ≤ 4611686018427387904) (h2 : nd.beat ≤ 4611686018427387904) (h3 : S.sets < 9223372036854775807) (hl : S.tms.length ≤ 99998) : Does Tryz.prog G 164 [ptr e, plV q, .agg (nodeCells nd u).toArray].toArray [engX e p S] fun v m => v = .tuple #[] ∧ m = [engX e p (S.life q nd)] := by
  have hlat : ∀ n, S.now ≤ S.later n := fun n => by unfold FK.En.later; omega
  have hlat2 : ∀ n, S.later n ≤ 4611686018427387904 := fun n => by unfold FK.En.later; omega
  refine Does.body Tryz.func164 rfl rfl fun E fr hE => ?_
  refine At.app1 ?_
  refine At.seq ?_
  refine At.region ?_
  refine L.op rfl (o_box rfl rfl fun b4 => ?_)
  refine L.op rfl (o_box rfl rfl fun b5 => ?_)
  refine L.nil ?_
  refine At.then ?_
  refine At.seq ?_
  refine At.region ?_
  refine L.fa 2 rfl rfl rfl ?_
  refine L.ld rfl rfl rfl rfl ?_
  refine L.pure rfl (ev_gtr rfl rfl rfl) ?_
  refine L.nil ?_
  refine At.then ?_
  refine At.condD rfl (fun c8 => ?_) (fun c8 => ?_)
  ·
    have hb : 0 < nd.beat := by omega
    refine Dr.start rfl ?_
    refine Dr.p 0 rfl rfl (by kernel_rfl) (ev_move rfl) ?_
    refine Dr.p 1 rfl rfl (by kernel_rfl) (ev_nil rfl) ?_
    refine Dr.p 2 rfl rfl (by kernel_rfl) (ev_field (off := 6) rfl rfl) ?_
    refine Dr.ld 3 rfl rfl (by kernel_rfl) (ev_load1 rfl rfl) (eng_cell fun _ _ _ => rfl) ?_
    refine Dr.p 4 rfl rfl (by kernel_rfl) (ev_field (off := 0) rfl rfl) ?_
    refine Dr.ld 5 rfl rfl (by kernel_rfl) (ev_load1 rfl rfl) (cellIs rfl) ?_
    refine Dr.p 6 rfl rfl (by kernel_rfl) (ev_field (off := 1) rfl rfl) ?_
    refine Dr.ld 7 rfl rfl (by kernel_rfl) (ev_load1 rfl rfl) (cellIs rfl) ?_
    refine Dr.p 8 rfl rfl (by kernel_rfl) (ev_build (cs := #[.int .u64 q.run, .int .i64 q.node, .int .i64 2]) rfl rfl rfl rfl rfl) ?_
    refine Dr.p 9 rfl rfl (by kernel_rfl) (ev_move rfl) ?_
    refine Dr.p 10 rfl rfl (by kernel_rfl) (ev_field (off := 2) rfl rfl) ?_
    refine Dr.ld 11 rfl rfl (by kernel_rfl) (ev_load1 rfl rfl) (cellIs rfl) ?_
    refine Dr.run 12 rfl rfl (by kernel_rfl) (o_call rfl rfl rfl hE (after_does nd.beat h1 (by omega) h2) (Ent.sel (.tail (.tail (.head)))) ?_)
    rintro v m ⟨rfl, rfl⟩
    refine At.app1 ?_
    refine Dr.kept [false, true, true, true] (by kernel_rfl) (Kept.cons (cellIs rfl) (Kept.cons (cellIs rfl) (Kept.cons (eng_cell fun _ _ _ => rfl) Kept.nil))) ?_
    refine Dr.run 13 rfl rfl (by kernel_rfl) (o_call rfl rfl rfl hE (set_eng ⟨q.run, q.node, 2⟩ (S.later nd.beat.toNat) (hlat _) (hlat2 _) h3 hl) (Ent.refl _) ?_)
    rintro v m ⟨rfl, rfl⟩
    refine At.app1 ?_
    refine Dr.kept [true, true, false] (by kernel_rfl) (Kept.cons (cellIs rfl) (Kept.cons (cellIs rfl) Kept.nil)) ?_
    refine Dr.done (by kernel_rfl) ?_
    exact At.end0 [engX e p (S.life q nd)] rfl ⟨rfl, rfl⟩ (by unfold FK.En.life; rw [if_pos hb]; exact Ent.cons (Ent.drop.trans Ent.drop))
  ·
    have hb : ¬ 0 < nd.beat := by omega
    refine At.skip ?_
    exact At.end0 [engX e p (S.life q nd)] rfl ⟨rfl, rfl⟩ (by unfold FK.En.life; rw [if_neg hb]; exact Ent.drop.trans Ent.drop)
end Go.Proofs.YtmeegfamopaljaaGreatDoor

namespace Go.Proofs.YtmeegfamopaljaaGreatDoor
open Go Go.RowKit Go.SL
variable {G : Env → Prop}
theorem vassoc_map {α : Type} (l : List (Nat × α)) (f : Nat → α → Value) (k : Nat) : vassoc (l.map fun r => (r.1, f r.1 r.2)) k = ((l.find? (·.1 == k)).map fun r => f k r.2) := by
  unfold vassoc
  induction l with
  | nil => rfl
  | cons x l ih =>
    simp only [List.map_cons, List.find?_cons]
    cases h : x.1 == k with
    | true =>
      have : x.1 = k := by simpa using h
      simp [this]
    | false => exact ih
theorem runs_get {S : FK.En} {p : EA} {id : Nat} {R : FK.Rn} (h : S.getR id = some R) : vassoc (runM S p) id = some (ptr (p.fb id)) := by
  unfold runM
  rw [vassoc_map S.runs (fun k _ => ptr (p.fb k)) id]
  unfold FK.En.getR at h
  cases hf : S.runs.find? (·.1 == id) with
  | none => rw [hf] at h; cases h
  | some x => rfl
theorem runs_none {S : FK.En} {p : EA} {id : Nat} (h : S.getR id = none) : vassoc (runM S p) id = none := by
  unfold runM
  rw [vassoc_map S.runs (fun k _ => ptr (p.fb k)) id]
  unfold FK.En.getR at h
  cases hf : S.runs.find? (·.1 == id) with
  | none => rfl
  | some x => rw [hf] at h; cases h
theorem tasks_get {S : FK.En} {t : Nat} : vassoc (taskM S) t = ((S.tasks.find? (·.1 == t)).map fun x => plV x.2) := by
  unfold taskM
  rw [vassoc_map S.tasks (fun _ q => plV q) t]
set_option maxRecDepth 10000 in
theorem ready_does {e : Nat} {p : EA} {S : FK.En} {id k : Nat} {wh : Int} {R : FK.Rn} {s : FK.Sp} (hR : S.getR id = some R) (hs : R.steps[k]? = some s) (hq : S.queue.length ≤ 400) : Does Tryz.prog G 205 [ptr e, plV ⟨id, (k : Int), wh⟩].toArray [engX e p S] fun v m => v = .tuple #[] ∧ m = [engX e p (S.ready id k)] := by
  have hk := (List.getElem?_eq_some_iff.1 hs).1
  refine Does.body Tryz.func205 rfl rfl fun E fr hE => ?_
  refine At.app1 ?_
  refine At.seq ?_
  refine At.region ?_
  refine L.op rfl (o_box rfl rfl fun b3 => ?_)
  refine L.nil ?_
  refine At.then ?_
  refine At.seq ?_
  refine Dr.start rfl ?_
  refine Dr.p 0 rfl rfl (by kernel_rfl) (ev_move rfl) ?_
  refine Dr.p 1 rfl rfl (by kernel_rfl) (ev_nil rfl) ?_
  refine Dr.p 2 rfl rfl (by kernel_rfl) (ev_field (off := 1) rfl rfl) ?_
  refine Dr.ld 3 rfl rfl (by kernel_rfl) (ev_load1 rfl rfl) (eng_cell fun _ _ _ => rfl) ?_
  refine Dr.p 4 rfl rfl (by kernel_rfl) (ev_field (off := 0) rfl rfl) ?_
  refine Dr.ld 5 rfl rfl (by kernel_rfl) (ev_load1 rfl rfl) (cellIs rfl) ?_
  refine Dr.ld 6 rfl rfl (by kernel_rfl) (ev_vget (a := id) (v := ptr (p.fb id)) rfl natKey rfl rfl (runs_get hR)) eng_runs ?_
  refine Dr.p 7 rfl rfl (by kernel_rfl) (ev_nil rfl) ?_
  refine Dr.p 8 rfl rfl (by kernel_rfl) (ev_field (off := 3) rfl rfl) ?_
  refine Dr.ld 9 rfl rfl (by kernel_rfl) (ev_load1 (v := (p.ra id).sv R) rfl rfl) (run_cell hR rfl) ?_
  refine Dr.p 10 rfl rfl (by kernel_rfl) (ev_field (off := 1) rfl rfl) ?_
  refine Dr.ld 11 rfl rfl (by kernel_rfl) (ev_load1 rfl rfl) (cellIs rfl) ?_
  refine Dr.p 12 rfl rfl (by kernel_rfl) (ev_ixN (z := 3) rfl rfl rfl rfl hk) ?_
  refine Dr.p 13 rfl rfl (by kernel_rfl) (ev_field (off := 0) rfl rfl) ?_
  refine Dr.run 14 rfl rfl (by kernel_rfl) (o_stStep (s' := { s with state := 2 }) hR hs rfl rfl rfl rfl (by omega) rfl rfl ?_)
  refine Dr.kept [false, false, false, false, false] (by kernel_rfl) Kept.nil ?_
  refine Dr.done (by kernel_rfl) ?_
  refine At.then ?_
  refine At.seq ?_
  refine At.region ?_
  refine L.fa 2 rfl rfl rfl ?_
  refine L.st rfl rfl rfl rfl (by show 2 < 3; omega) ?_
  refine L.nil ?_
  refine At.then ?_
  refine Dr.start rfl ?_
  refine Dr.p 0 rfl rfl (by kernel_rfl) (ev_move rfl) ?_
  refine Dr.p 1 rfl rfl (by kernel_rfl) (ev_nil rfl) ?_
  refine Dr.p 2 rfl rfl (by kernel_rfl) (ev_field (off := 3) rfl rfl) ?_
  refine Dr.ld 3 rfl rfl (by kernel_rfl) (ev_loadN (vs := plL ⟨id, (k : Int), 0⟩) rfl rfl rfl rfl) (rowAll rfl) ?_
  refine Dr.run 4 rfl rfl (by kernel_rfl) (o_call rfl rfl rfl hE (rpush_eng ⟨id, (k : Int), 0⟩ (by exact hq)) (Ent.sel (.tail (.head))) ?_)
  rintro v m ⟨rfl, rfl⟩
  refine At.app1 ?_
  refine Dr.kept [false] (by kernel_rfl) Kept.nil ?_
  refine Dr.done (by kernel_rfl) ?_
  exact At.end0 [engX e p (S.ready id k)] rfl ⟨rfl, rfl⟩ (by unfold FK.En.ready; rw [FK.onS_eq _ hR hs]; exact Ent.cons Ent.drop)
end Go.Proofs.YtmeegfamopaljaaGreatDoor

namespace Go.Proofs.YtmeegfamopaljaaGreatDoor
open Go Go.RowKit Go.SL
variable {G : Env → Prop}
theorem taskM_erase (S : FK.En) (t : Nat) : (taskM S).eraseP (·.1 == t) = taskM { S with tasks := S.tasks.eraseP (·.1 == t) } := by
  unfold taskM
  rw [List.eraseP_map]
  rfl
section
variable {P : Program} {E : Env} {n : Nat} {D : List Deferred} {ts : List (Nat × Value)} {l r : List HP} {Q : Exit → Act → World → Prop} {ty : TypeId} {pos : String} {af : Array Edge} {g : Option (Nat × Bool)} {t : TypeId} {x y : Operand} {e : Nat} {p : EA} {S : FK.En} {K : Act → World → Prop} [H : HasEng l e p S r]
theorem o_delTask {tok : Nat} {t kt et : TypeId} {d : Option Tmp} (hd : d = none) (ht : P.underlying t = some (.map kt et)) (hk : KeyK P kt Nat natV) (hx : ev ts x = some (.map (some p.tm))) (hy : ev ts y = some (natV tok))
    (h : At E n D ts (engX e p { S with tasks := S.tasks.eraseP (·.1 == tok) } :: r) K) : At E n D ts l (fun ac w => (Oper.mk d (.call { callee := .builtin .delete, args := #[x, y], argTypes := #[t, kt] }) ty pos af g).wp P ac w K Q) := by
  refine At.ent (Ent.sel H.sel) (At.openAll ?_)
  show At E n D ts (HP.pure (EngOk S) :: ringE e (ecOf S p) S.queue :: vmap natV p.rm (runM S p) :: runsX p S.runs :: vmap natV p.tm (taskM S) :: wheelE p.w S.now S.sets S.tms :: r) _
  refine o_vdel (b := p.tm) (a := tok) hd ht hk hx hy (.tail (.tail (.tail (.tail .head)))) ?_
  rw [taskM_erase]
  refine At.ent ?_ h
  refine Ent.trans ?_ (Ent.all (m := engL e p { S with tasks := S.tasks.eraseP (·.1 == tok) }))
  exact (Ent.sel3 (.tail .head) (.tail .head) (.tail .head)).trans (Ent.cons (Ent.cons (Ent.cons (Ent.sel (.tail .head)))))
end
set_option maxRecDepth 10000 in
theorem leave_does {e : Nat} {p : EA} {S : FK.En} {id k : Nat} {wh : Int} {R : FK.Rn} {s : FK.Sp} (hR : S.getR id = some R) (hs : R.steps[k]? = some s) (hl : S.tms.length ≤ 99999) : Does Tryz.prog G 232 [ptr e, plV ⟨id, (k : Int), wh⟩].toArray [engX e p S] fun v m => v = .pointer (some ⟨(p.ra id).gs, 0 + k * 3, none⟩) ∧ m = [engX e p (S.leave id k)] := by
  have hk := (List.getElem?_eq_some_iff.1 hs).1
  refine Does.body Tryz.func232 rfl rfl fun E fr hE => ?_
  refine At.app1 ?_
  refine At.seq ?_
  refine At.region ?_
  refine L.op rfl (o_box rfl rfl fun b3 => ?_)
  refine L.as rfl rfl ?_
  refine L.nil ?_
  refine At.then ?_
  refine At.seq ?_
  refine Dr.start rfl ?_
  refine Dr.p 0 rfl rfl (by kernel_rfl) (ev_move rfl) ?_
  refine Dr.p 1 rfl rfl (by kernel_rfl) (ev_nil rfl) ?_
  refine Dr.p 2 rfl rfl (by kernel_rfl) (ev_field (off := 1) rfl rfl) ?_
  refine Dr.ld 3 rfl rfl (by kernel_rfl) (ev_load1 rfl rfl) (eng_cell fun _ _ _ => rfl) ?_
  refine Dr.p 4 rfl rfl (by kernel_rfl) (ev_field (off := 0) rfl rfl) ?_
  refine Dr.ld 5 rfl rfl (by kernel_rfl) (ev_load1 rfl rfl) (cellIs rfl) ?_
  refine Dr.ld 6 rfl rfl (by kernel_rfl) (ev_vget (a := id) (v := ptr (p.fb id)) rfl natKey rfl rfl (runs_get hR)) eng_runs ?_
  refine Dr.p 7 rfl rfl (by kernel_rfl) (ev_nil rfl) ?_
  refine Dr.p 8 rfl rfl (by kernel_rfl) (ev_field (off := 3) rfl rfl) ?_
  refine Dr.ld 9 rfl rfl (by kernel_rfl) (ev_load1 (v := (p.ra id).sv R) rfl rfl) (run_cell hR rfl) ?_
  refine Dr.p 10 rfl rfl (by kernel_rfl) (ev_field (off := 1) rfl rfl) ?_
  refine Dr.ld 11 rfl rfl (by kernel_rfl) (ev_load1 rfl rfl) (cellIs rfl) ?_
  refine Dr.p 12 rfl rfl (by kernel_rfl) (ev_ixN (z := 3) rfl rfl rfl rfl hk) ?_
  refine Dr.p 13 rfl rfl (by kernel_rfl) (ev_assign rfl) ?_
  refine Dr.done (by kernel_rfl) ?_
  refine At.then ?_
  refine At.seq ?_
  refine Dr.start rfl ?_
  refine Dr.p 0 rfl rfl (by kernel_rfl) (ev_move rfl) ?_
  refine Dr.p 1 rfl rfl (by kernel_rfl) (ev_nil rfl) ?_
  refine Dr.p 2 rfl rfl (by kernel_rfl) (ev_field (off := 2) rfl rfl) ?_
  refine Dr.ld 3 rfl rfl (by kernel_rfl) (ev_load1 rfl rfl) (eng_cell fun _ _ _ => rfl) ?_
  refine Dr.p 4 rfl rfl (by kernel_rfl) (ev_move rfl) ?_
  refine Dr.p 5 rfl rfl (by kernel_rfl) (ev_nil rfl) ?_
  refine Dr.p 6 rfl rfl (by kernel_rfl) (ev_field (off := 2) rfl rfl) ?_
  refine Dr.ld 7 rfl rfl (by kernel_rfl) (ev_load1 (v := .int .u64 s.token) rfl rfl) (step_cell hR hs rfl) ?_
  refine Dr.run 8 rfl rfl (by kernel_rfl) (o_delTask (tok := s.token) rfl rfl natKey rfl rfl ?_)
  refine Dr.kept [false, false] (by kernel_rfl) Kept.nil ?_
  refine Dr.done (by kernel_rfl) ?_
  refine At.then ?_
  refine At.seq ?_
  have hR1 : { S with tasks := S.tasks.eraseP (·.1 == s.token) }.getR id = some R := hR
  refine At.region ?_
  refine L.mv rfl rfl ?_
  refine L.nc rfl rfl ?_
  refine L.fa 2 rfl rfl rfl ?_
  refine L.op rfl (o_stStep (s' := { s with token := 0 }) hR1 hs rfl rfl rfl rfl (by omega) rfl rfl ?_)
  refine L.nil ?_
  refine At.then ?_
  refine At.seq ?_
  refine Dr.start rfl ?_
  refine Dr.p 0 rfl rfl (by kernel_rfl) (ev_move rfl) ?_
  refine Dr.p 1 rfl rfl (by kernel_rfl) (ev_nil rfl) ?_
  refine Dr.p 2 rfl rfl (by kernel_rfl) (ev_field (off := 6) rfl rfl) ?_
  refine Dr.ld 3 rfl rfl (by kernel_rfl) (ev_load1 rfl rfl) (eng_cell fun _ _ _ => rfl) ?_
  refine Dr.p 4 rfl rfl (by kernel_rfl) (ev_field (off := 0) rfl rfl) ?_
  refine Dr.ld 5 rfl rfl (by kernel_rfl) (ev_load1 rfl rfl) (cellIs rfl) ?_
  refine Dr.p 6 rfl rfl (by kernel_rfl) (ev_field (off := 1) rfl rfl) ?_
  refine Dr.ld 7 rfl rfl (by kernel_rfl) (ev_load1 rfl rfl) (cellIs rfl) ?_
  refine Dr.p 8 rfl rfl (by kernel_rfl) (ev_build (cs := #[.int .u64 id, .int .i64 (k : Int), .int .i64 1]) rfl rfl rfl rfl rfl) ?_
  refine Dr.run 9 rfl rfl (by kernel_rfl) (o_call rfl rfl rfl hE (drop_eng ⟨id, (k : Int), 1⟩ (by exact hl)) (Ent.refl _) ?_)
  rintro v m ⟨rfl, rfl⟩
  refine At.app1 ?_
  refine Dr.kept [true, true, false] (by kernel_rfl) (Kept.cons (cellIs rfl) (Kept.cons (cellIs rfl) Kept.nil)) ?_
  refine Dr.done (by kernel_rfl) ?_
  refine At.then ?_
  refine At.seq ?_
  refine Dr.start rfl ?_
  refine Dr.p 0 rfl rfl (by kernel_rfl) (ev_move rfl) ?_
  refine Dr.p 1 rfl rfl (by kernel_rfl) (ev_nil rfl) ?_
  refine Dr.p 2 rfl rfl (by kernel_rfl) (ev_field (off := 6) rfl rfl) ?_
  refine Dr.ld 3 rfl rfl (by kernel_rfl) (ev_load1 rfl rfl) (eng_cell fun _ _ _ => rfl) ?_
  refine Dr.p 4 rfl rfl (by kernel_rfl) (ev_field (off := 0) rfl rfl) ?_
  refine Dr.ld 5 rfl rfl (by kernel_rfl) (ev_load1 rfl rfl) (cellIs rfl) ?_
  refine Dr.p 6 rfl rfl (by kernel_rfl) (ev_field (off := 1) rfl rfl) ?_
  refine Dr.ld 7 rfl rfl (by kernel_rfl) (ev_load1 rfl rfl) (cellIs rfl) ?_
  refine Dr.p 8 rfl rfl (by kernel_rfl) (ev_build (cs := #[.int .u64 id, .int .i64 (k : Int), .int .i64 2]) rfl rfl rfl rfl rfl) ?_
  refine Dr.run 9 rfl rfl (by kernel_rfl) (o_call rfl rfl rfl hE (drop_eng ⟨id, (k : Int), 2⟩ (Nat.le_trans (List.length_filter_le _ _) (by exact hl))) (Ent.refl _) ?_)
  rintro v m ⟨rfl, rfl⟩
  refine At.app1 ?_
  refine Dr.kept [true, true, false] (by kernel_rfl) (Kept.cons (cellIs rfl) (Kept.cons (cellIs rfl) Kept.nil)) ?_
  refine Dr.done (by kernel_rfl) ?_
  refine At.then ?_
  refine At.seq ?_
  refine At.region ?_
  refine L.mv rfl rfl ?_
  refine L.as rfl rfl ?_
  refine L.nil ?_
  refine At.then ?_
  refine At.ret ?_
  exact At.ret1 [engX e p (S.leave id k)] rfl rfl ⟨rfl, rfl⟩ (by rw [FK.leave_eq hR hs]; exact Ent.cons Ent.drop)
theorem ev_vlook' {P : Program} {ts : List (Nat × Value)} {K : Type} [BEq K] {enc : K → Value} {t kt et : TypeId} {x y : Operand} {b : Nat} {m : List (K × Value)} {a : K} {z v : Value} {o : Bool} (ht : P.underlying t = some (.map kt et)) (hk : KeyK P kt K enc) (hz : zeroIs P et z) (hx : ev ts x = some (.map (some b))) (hy : ev ts y = some (enc a)) (hv : (vassoc m a).getD z = v) (ho : (vassoc m a).isSome = o) :
    Ev P ts (.lookup t x y true) (.tuple #[v, .bool o]) (VMapIs enc b m) := by
  subst hv; subst ho
  exact ev_vlook ht hk hz hx hy
set_option maxRecDepth 10000 in
theorem any_does {e : Nat} {p : EA} {S : FK.En} : Does Tryz.prog G 99 [ptr e].toArray [engX e p S] fun v m => v = .bool (decide (0 < S.queue.length)) ∧ m = [engX e p S] := by
  refine Does.body Tryz.func99 rfl rfl fun E fr hE => ?_
  refine At.app1 ?_
  refine At.seq ?_
  refine At.region ?_
  refine L.as rfl rfl ?_
  refine L.nil ?_
  refine At.then ?_
  refine At.seq ?_
  refine At.region ?_
  refine L.mv rfl rfl ?_
  refine L.nc rfl rfl ?_
  refine L.fa 3 rfl rfl rfl ?_
  refine L.op rfl (o_call rfl rfl rfl hE rlen_eng (Ent.refl _) ?_)
  rintro v m ⟨rfl, rfl⟩
  refine At.app1 ?_
  refine L.pure rfl (ev_gtr rfl rfl rfl) ?_
  refine L.as rfl rfl ?_
  refine L.nil ?_
  refine At.then ?_
  refine At.ret ?_
  exact At.ret1 [_] rfl rfl ⟨by congr 1; simp, rfl⟩ (Ent.refl _)
set_option maxRecDepth 10000 in
theorem works_does {e : Nat} {p : EA} {S : FK.En} (t : Nat) : Does Tryz.prog G 165 [ptr e, natV t].toArray [engX e p S] fun v m => v = .bool (S.tasks.any (·.1 == t)) ∧ m = [engX e p S] := by
  have hb : (vassoc (taskM S) t).isSome = S.tasks.any (·.1 == t) := by rw [tasks_get]; simp [List.isSome_find?]
  obtain ⟨q, hq⟩ : ∃ q : FK.Pl, (vassoc (taskM S) t).getD (plV ⟨0, 0, 0⟩) = plV q := by
    rw [tasks_get]
    cases S.tasks.find? (·.1 == t) with
    | none => exact ⟨⟨0, 0, 0⟩, rfl⟩
    | some x => exact ⟨x.2, rfl⟩
  refine Does.body Tryz.func165 rfl rfl fun E fr hE => ?_
  refine At.app1 ?_
  refine At.seq ?_
  refine At.region ?_
  refine L.as rfl rfl ?_
  refine L.nil ?_
  refine At.then ?_
  refine At.seq ?_
  refine At.region ?_
  refine L.mv rfl rfl ?_
  refine L.nc rfl rfl ?_
  refine L.fa 2 rfl rfl rfl ?_
  refine L.val rfl (ev_load1 (v := .map (some p.tm)) rfl rfl) (eng_cell fun _ _ _ => rfl) ?_
  refine L.mv rfl rfl ?_
  refine L.val rfl (ev_vlook' (m := taskM S) rfl natKey rfl rfl rfl hq hb) eng_tasks ?_
  refine L.mv rfl rfl ?_
  refine L.ex rfl rfl rfl ?_
  refine L.ex rfl rfl rfl ?_
  refine L.op rfl (o_alloc (z := .agg #[.int .u64 0, .int .i64 0, .int .i64 0]) rfl rfl fun b5 => ?_)
  refine L.op rfl (o_storeN rfl (m := 3) rfl rfl rfl rfl (by simp [Value.oneCell']) (by first | decide | (simp [Value.cells]; done) | (simp [Value.cells]; omega)) ?_)
  refine L.as rfl rfl ?_
  refine L.nil ?_
  refine At.then ?_
  refine At.seq ?_
  refine At.region ?_
  refine L.mv rfl rfl ?_
  refine L.as rfl rfl ?_
  refine L.nil ?_
  refine At.then ?_
  refine At.ret ?_
  exact At.ret1 [engX e p S] rfl rfl ⟨rfl, rfl⟩ Ent.drop
theorem life_runs {S : FK.En} {q : FK.Pl} {nd : FK.Node} : (S.life q nd).runs = S.runs := by
  unfold FK.En.life
  split <;> rfl
theorem life_R {S : FK.En} {q : FK.Pl} {nd : FK.Node} {id : Nat} : (S.life q nd).getR id = S.getR id := by
  unfold FK.En.getR
  rw [life_runs]
end Go.Proofs.YtmeegfamopaljaaGreatDoor

namespace Go.SL
open Go Go.RowKit
section
variable {P : Program} {E : Env} {n : Nat} {D : List Deferred} {ts : List (Nat × Value)} {l : List HP} {Q : Exit → Act → World → Prop}
theorem At.scope {c : Code} (h : At E n D ts l (c.wp P (Exit.noGoto Q))) : At E n D ts l ((Code.scope c).wp P Q) := fun a w f hw => wp_scope_straight (h a w f hw)
theorem At.inScope (h : At E n D ts l (Q .normal)) : At E n D ts l (Exit.noGoto Q .normal) := h
end
end Go.SL

namespace Go.Proofs.YtmeegfamopaljaaGreatDoor
open Go Go.RowKit Go.SL
variable {G : Env → Prop}
theorem ent_states {b : Nat} {xs : List Int} {r : List HP} (h : xs.length ≤ maxLen) : Ent (blk b 3 (intsV xs).toArray :: r) (intsAt (.slice (some ⟨b, 0, none⟩) xs.length xs.length) xs :: r) :=
  Ent.closeRow (Nat.le_refl _) h (by simp [intsV]) (by rw [List.take_of_length_le (by simp [intsV])])
abbrev FitA (fl : FK.Flow) : Prop := ∀ nd ∈ fl.nodes, ∀ x ∈ nd.after, 0 ≤ x ∧ x < (fl.nodes.length : Int)
set_option maxRecDepth 10000 in
set_option maxHeartbeats 1000000 in
theorem wake_does {e : Nat} {p : EA} {S : FK.En} {id : Nat} {R : FK.Rn} (hR : S.getR id = some R) (hlen : R.steps.length = R.fl.nodes.length) (hfit : FitA R.fl) (hn : R.fl.nodes.length ≤ 100) (hq : S.queue.length ≤ 300) : Does Tryz.prog G 160 [ptr e, natV id].toArray [engX e p S] fun v m => v = .tuple #[] ∧ m = [engX e p (S.wake id)] := by
  refine Does.body Tryz.func160 rfl rfl fun E fr hE => ?_
  refine At.app1 ?_
  refine At.scope ?_
  refine At.seq ?_
  refine At.region ?_
  refine L.mv rfl rfl ?_
  refine L.nc rfl rfl ?_
  refine L.fa 1 rfl rfl rfl ?_
  refine L.val rfl (ev_load1 (v := .map (some p.rm)) rfl rfl) (eng_cell fun _ _ _ => rfl) ?_
  refine L.mv rfl rfl ?_
  refine L.val rfl (ev_vget (m := runM S p) rfl natKey rfl rfl (runs_get hR)) eng_runs ?_
  refine L.as rfl rfl ?_
  refine L.nil ?_
  refine At.then ?_
  refine At.seq ?_
  refine At.label ?_
  refine At.then ?_
  refine At.seq ?_
  refine At.region ?_
  refine L.mv rfl rfl ?_
  refine L.nc rfl rfl ?_
  refine L.fa 0 rfl rfl rfl ?_
  refine L.fa 1 rfl rfl rfl ?_
  refine L.val rfl (ev_load1 (v := (p.ra id).nv R) rfl rfl) (run_cell hR rfl) ?_
  refine L.pure rfl (ev_lenS rfl rfl) ?_
  refine L.mv rfl rfl ?_
  refine L.nil ?_
  refine At.then ?_
  refine At.block ?_
  refine At.loop (X := Nat) (fun k => [(21, .int .i64 k), (20, .int .i64 R.fl.nodes.length), (19, (p.ra id).nv R), (4, ptr (p.fb id)), (0, ptr e), (1, natV id)]) (fun k => engX e p (S.wakeN id k) :: fr) (fun k => k ≤ R.fl.nodes.length) (fun k => R.fl.nodes.length - k) 0 (Nat.zero_le _) ⟨rfl, rfl, rfl, rfl, rfl, rfl, trivial⟩ (Ent.refl _) ?_
  intro k hk
  refine At.seq ?_
  refine At.region ?_
  refine L.pure rfl (ev_lss rfl rfl rfl) ?_
  refine L.nil ?_
  refine At.then ?_
  refine At.seq ?_
  refine At.condD rfl (fun c22 => ?_) (fun c22 => ?_)
  ·
    have hlt : k < R.fl.nodes.length := by omega
    obtain ⟨R1, hR1, hS1, hq1⟩ := FK.wakeN_on hR k
    obtain ⟨nd, hnd⟩ : ∃ nd, R.fl.nodes[k]? = some nd := ⟨R.fl.nodes[k], by simp [hlt]⟩
    have hnd1 : R1.fl.nodes[k]? = some nd := by rw [hS1.fl]; exact hnd
    obtain ⟨s, hs⟩ : ∃ s, R1.steps[k]? = some s := ⟨R1.steps[k]'(by rw [hS1.len]; omega), by simp [hS1.len, hlen, hlt]⟩
    refine At.fact (fun w hw => aft_form hR1 hnd1 hw) fun hA => ?_
    obtain ⟨A, c, hu, hA1, hA2, hA3, hA4⟩ := hA
    replace hA4 : c ≤ 9223372036854775807 := hA4
    refine At.skip ?_
    refine At.then ?_
    refine At.seq ?_
    refine At.block ?_
    refine At.seq ?_
    refine At.region ?_
    refine L.mv rfl rfl ?_
    refine L.pure rfl (ev_ixN (z := 7) rfl rfl rfl rfl hlt) ?_
    refine L.val rfl (ev_loadN (vs := nodeCells nd (.slice A nd.after.length c)) rfl rfl rfl rfl) (node_row hR1 hnd1 hu) ?_
    refine L.op rfl (o_alloc (z := .agg #[.int .i64 0, .int .i64 0, .int .i64 0, .int .i64 0, .int .i64 0, .int .i64 0, .slice none 0 0]) rfl rfl fun b6 => ?_)
    refine L.as rfl rfl ?_
    refine L.op rfl (o_storeN (vs := nodeCells nd (.slice A nd.after.length c)) rfl (m := 7) rfl rfl rfl rfl (by simp [nodeCells, Value.oneCell']) (by show 0 + 7 ≤ 7; omega) ?_)
    refine At.ent (l' := blk b6 46 (nodeCells nd (.slice A nd.after.length c)).toArray :: engX e p (S.wakeN id k) :: fr) (Ent.refl _) ?_
    refine L.nil ?_
    refine At.then ?_
    refine At.seq ?_
    refine At.seq ?_
    refine At.region ?_
    refine L.mv rfl rfl ?_
    refine L.mv rfl rfl ?_
    refine L.op rfl (o_slice1 rfl rfl rfl rfl rfl rfl fun b28 => ?_)
    refine L.op rfl (o_call rfl rfl rfl hE (is_does [1] (some ⟨b28, 0, none⟩) 1 hR1 hs) ((Ent.sel2 (.tail (.tail (.head))) .head).trans (Ent.cons (ent_states (xs := [1]) (show 1 ≤ 9223372036854775807 by omega)))) ?_)
    rintro v m ⟨rfl, rfl⟩
    refine At.app1 ?_
    refine L.pure rfl (ev_not rfl rfl) ?_
    refine L.nil ?_
    refine At.then ?_
    refine At.cond rfl (fun c30 => ?_) (fun c30 => ?_)
    ·
      have hs1 : s.state ≠ 1 := by simpa using c30
      refine At.exit ?_
      refine At.thenExit (At.inBlockHit (At.then ?_))
      refine At.region ?_
      refine L.pure rfl (ev_add (r := ((k + 1 : Nat) : Int)) rfl rfl (by rw [w64 (by omega)]; omega)) ?_
      refine L.mv rfl rfl ?_
      refine L.nil ?_
      exact At.round (k + 1) hlt (by omega) ⟨rfl, rfl, rfl, rfl, rfl, rfl, trivial⟩ (by
        rw [FK.wakeN_succ, FK.wakeK_eq hR1, FK.freeAt_eq hs hnd1, if_neg (by simp [hs1])]
        exact Ent.cons Ent.drop)
    ·
      have hs1 : s.state = 1 := by simpa using c30
      refine At.skip ?_
      refine At.then ?_
      refine At.seq ?_
      refine At.seq ?_
      refine At.region ?_
      refine L.fa 6 rfl rfl rfl ?_
      refine L.ld rfl rfl rfl rfl ?_
      refine L.pure rfl (ev_lenS rfl rfl) ?_
      refine L.mv rfl rfl ?_
      refine L.nil ?_
      refine At.then ?_
      refine At.block ?_
      refine At.loop (X := Nat) (fun j => [(34, .int .i64 j), (33, .int .i64 nd.after.length), (32, .slice A nd.after.length c), (21, .int .i64 k), (20, .int .i64 R.fl.nodes.length), (19, (p.ra id).nv R), (4, ptr (p.fb id)), (0, ptr e), (1, natV id), (5, .int .i64 k)]) (fun j => engX e p (S.wakeN id k) :: fr) (fun j => j ≤ nd.after.length ∧ ∀ i x, i < j → nd.after[i]? = some x → FK.isAt R1.steps x.toNat 5 = true) (fun j => nd.after.length - j) 0 ⟨Nat.zero_le _, fun i x h => by omega⟩ ⟨rfl, rfl, rfl, rfl, rfl, rfl, rfl, rfl, rfl, rfl, trivial⟩ (Ent.cons Ent.drop) ?_
      rintro j ⟨hj, hall⟩
      refine At.seq ?_
      refine At.region ?_
      refine L.pure rfl (ev_lss rfl rfl rfl) ?_
      refine L.nil ?_
      refine At.then ?_
      refine At.seq ?_
      refine At.condD rfl (fun c35 => ?_) (fun c35 => ?_)
      ·
        have hjl : j < nd.after.length := by omega
        obtain ⟨g, rfl⟩ : ∃ g, A = some ⟨g, 0, none⟩ := by
          cases A with
          | none => have := (hA1 rfl).1; omega
          | some ad => obtain ⟨g, rfl⟩ := hA2 ad rfl; exact ⟨g, rfl⟩
        obtain ⟨x, hx⟩ : ∃ x, nd.after[j]? = some x := ⟨nd.after[j], by simp [hjl]⟩
        obtain ⟨hx0, hxn⟩ := hfit nd (List.mem_of_getElem? hnd) x (List.mem_of_getElem? hx)
        obtain ⟨u, rfl⟩ : ∃ u : Nat, x = (u : Int) := ⟨x.toNat, by omega⟩
        obtain ⟨s2, hs2⟩ : ∃ s2, R1.steps[u]? = some s2 := ⟨R1.steps[u]'(by rw [hS1.len]; omega), by simp⟩
        refine At.skip ?_
        refine At.then ?_
        refine At.seq ?_
        refine At.block ?_
        refine At.seq ?_
        refine At.region ?_
        refine L.pure rfl (ev_ixN (z := 1) rfl rfl rfl rfl hjl) ?_
        refine L.val rfl (ev_load1 (v := .int .i64 (u : Int)) rfl rfl) (aft_cell hR1 hnd1 hu hx) ?_
        refine L.as rfl rfl ?_
        refine L.nil ?_
        refine At.then ?_
        refine At.seq ?_
        refine At.region ?_
        refine L.mv rfl rfl ?_
        refine L.mv rfl rfl ?_
        refine L.op rfl (o_slice1 rfl rfl rfl rfl rfl rfl fun b40 => ?_)
        refine L.op rfl (o_call rfl rfl rfl hE (is_does [5] (some ⟨b40, 0, none⟩) 1 hR1 hs2) ((Ent.sel2 (.tail (.head)) .head).trans (Ent.cons (ent_states (xs := [5]) (show 1 ≤ 9223372036854775807 by omega)))) ?_)
        rintro v m ⟨rfl, rfl⟩
        refine At.app1 ?_
        refine L.pure rfl (ev_not rfl rfl) ?_
        refine L.nil ?_
        refine At.then ?_
        refine At.cond rfl (fun c42 => ?_) (fun c42 => ?_)
        ·
          have hs5 : s2.state ≠ 5 := by simpa using c42
          have hno : (nd.after.all fun u => FK.isAt R1.steps u.toNat 5) = false := by
            rw [List.all_eq_false]
            exact ⟨_, List.mem_of_getElem? hx, by rw [Int.toNat_natCast, FK.isAt_some hs2]; simpa using hs5⟩
          refine At.exit ?_
          refine At.inBlockMiss rfl (At.thenExit (At.roundExit (At.inBlockMiss rfl (At.thenExit (At.inBlockHit (At.then ?_))))))
          refine At.region ?_
          refine L.pure rfl (ev_add (r := ((k + 1 : Nat) : Int)) rfl rfl (by rw [w64 (by omega)]; omega)) ?_
          refine L.mv rfl rfl ?_
          refine L.nil ?_
          exact At.round (k + 1) hlt (by omega) ⟨rfl, rfl, rfl, rfl, rfl, rfl, trivial⟩ (by
            rw [FK.wakeN_succ, FK.wakeK_eq hR1, FK.freeAt_eq hs hnd1, hno, if_neg (by simp)]
            exact Ent.refl _)
        ·
          have hs5 : s2.state = 5 := by simpa using c42
          refine At.skip ?_
          refine At.inBlock (At.then ?_)
          refine At.region ?_
          refine L.pure rfl (ev_add (r := ((j + 1 : Nat) : Int)) rfl rfl (by rw [w64 (by omega)]; omega)) ?_
          refine L.mv rfl rfl ?_
          refine L.nil ?_
          exact At.round (j + 1) ⟨hjl, fun i y hi hy => (by
            rcases Nat.lt_succ_iff_lt_or_eq.1 hi with h | rfl
            · exact hall i y h hy
            · rw [hx] at hy; injection hy with hy; subst hy; rw [Int.toNat_natCast, FK.isAt_some hs2]; simpa using hs5)⟩ (by omega) ⟨rfl, rfl, rfl, rfl, rfl, rfl, rfl, rfl, rfl, rfl, trivial⟩ (Ent.refl _)
      ·
        have hyes : (nd.after.all fun u => FK.isAt R1.steps u.toNat 5) = true := by
          rw [List.all_eq_true]
          intro y hy
          obtain ⟨i, hi, rfl⟩ := List.getElem_of_mem hy
          exact hall i _ (by omega) (List.getElem?_eq_getElem hi)
        refine At.exit ?_
        refine At.thenExit (At.roundExit (At.inBlockHit (At.then ?_)))
        refine At.region ?_
        refine L.mv rfl rfl ?_
        refine L.mv rfl rfl ?_
        refine L.mv rfl rfl ?_
        refine L.pure rfl (ev_build (cs := #[.int .u64 id, .int .i64 (k : Int), .int .i64 0]) rfl rfl rfl rfl rfl) ?_
        refine L.op rfl (o_call rfl rfl rfl hE (ready_does (wh := 0) hR1 hs (by omega)) (Ent.refl _) ?_)
        rintro v m ⟨rfl, rfl⟩
        refine At.app1 ?_
        refine L.nil ?_
        refine At.inBlock (At.then ?_)
        refine At.region ?_
        refine L.pure rfl (ev_add (r := ((k + 1 : Nat) : Int)) rfl rfl (by rw [w64 (by omega)]; omega)) ?_
        refine L.mv rfl rfl ?_
        refine L.nil ?_
        exact At.round (k + 1) hlt (by omega) ⟨rfl, rfl, rfl, rfl, rfl, rfl, trivial⟩ (by
          rw [FK.wakeN_succ, FK.wakeK_eq hR1, FK.freeAt_eq hs hnd1, hyes, if_pos (by simp [hs1])]
          exact Ent.refl _)
  ·
    have hke : k = R.fl.nodes.length := by omega
    refine At.exit ?_
    refine At.thenExit (At.roundExit (At.inBlockHit (At.inScope ?_)))
    refine At.end0 [engX e p (S.wake id)] rfl ⟨rfl, rfl⟩ ?_
    have : S.wake id = S.wakeN id k := by unfold FK.En.wake; rw [hR, hke]
    rw [this]
    exact Ent.refl _
end Go.Proofs.YtmeegfamopaljaaGreatDoor
