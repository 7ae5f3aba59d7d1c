/- The engine's fails, walked. -/
import Derived.Test.YtmeegfamopaljaaGreatDoorFiS
import Derived.Test.YtmeegfamopaljaaGreatDoorFiM
import Derived.Test.YtmeegfamopaljaaGreatDoorFiJ
import Derived.Laws.BitsAllLaws
import Derived.Test.YtmeegfamopaljaaGreatDoorFiI
import Derived.WalkKit
import Derived.Test.YtmeegfamopaljaaGreatDoorFiO
namespace Go.Proofs.YtmeegfamopaljaaGreatDoor
open Go Go.RowKit Go.SL
variable {G : Env → Prop}
theorem aft_lt {fl : FK.Flow} (h : FitA fl) : ∀ i, ∀ k ∈ FK.aft fl.nodes i, k < fl.nodes.length := fun i k hk => by
  unfold FK.aft at hk
  split at hk
  · rename_i n hn
    obtain ⟨x, hx, rfl⟩ := List.mem_map.1 hk
    obtain ⟨h0, h1⟩ := h n (List.mem_of_getElem? hn) x hx
    omega
  · cases hk
theorem turned_len {R : FK.Rn} {k : Nat} {s : FK.Sp} {st : Int} {T : List Nat} : ((R.turned k s st).skips T).steps.length = R.steps.length := by
  unfold FK.Rn.skips
  rw [show ({ R.turned k s st with steps := T.foldl (FK.skipK (R.turned k s st).fl.nodes) (R.turned k s st).steps } : FK.Rn).steps = T.foldl (FK.skipK (R.turned k s st).fl.nodes) (R.turned k s st).steps from rfl, FK.skips_len]
  unfold FK.Rn.turned FK.Rn.setS
  simp
set_option maxRecDepth 10000 in
set_option maxHeartbeats 2000000 in
theorem fails_does {e : Nat} {p : EA} {S : FK.En} {id k : Nat} {wh : Int} {R : FK.Rn} {s : FK.Sp} {nd : FK.Node} (hG : ∀ E w, G E → E.is w → Tab w) (hR : S.getR id = some R) (hs : R.steps[k]? = some s) (hnd : R.fl.nodes[k]? = some nd) (hlen : R.steps.length = R.fl.nodes.length) (hn : R.fl.nodes.length ≤ 12) (hfit : FitA R.fl) (hsm : ∀ n ∈ R.fl.nodes, (i64 n.budget ∧ i64 n.close ∧ i64 n.beat ∧ i64 n.base ∧ i64 n.cap ∧ i64 n.jitter) ∧ ∀ x ∈ n.after, i64 x)
    (hq : S.queue.length ≤ 300) (hl : S.tms.length ≤ 99997) (hends : S.ends < 9223372036854775807) (hnow : S.now ≤ 4611686018427387904) (hsets : S.sets + 1 < 9223372036854775807) (hseed : S.seed < 18446744073709551616) (h1 : 1 ≤ nd.base) (h2 : nd.base ≤ nd.cap) (h3 : nd.cap ≤ 1048576) (h4 : 0 ≤ nd.jitter) (h5 : nd.jitter ≤ 1048576) (hrest : 0 ≤ restOf nd.base nd.cap nd.jitter s.tries S.seed ∧ restOf nd.base nd.cap nd.jitter s.tries S.seed ≤ 4611686018427387904) :
    Does Tryz.prog G 234 [ptr e, plV ⟨id, (k : Int), wh⟩].toArray [engX e p S] fun v m => v = .tuple #[] ∧ ((s.tries < nd.budget ∧ m = [engX e p (S.rests id k R s (restOf nd.base nd.cap nd.jitter s.tries S.seed).toNat)]) ∨ (nd.budget ≤ s.tries ∧ ∃ left T, FK.Ordering R.fl.nodes left T ∧ (∀ i, left.testBit i = true → ∃ j ∈ FK.aft R.fl.nodes i, left.testBit j = true) ∧ m = [engX e p (S.dies id k R s T)])) := by
  have hkn := (List.getElem?_eq_some_iff.1 hnd).1
  have hRl := FK.leave_R hR hs
  have hsl := FK.setS_at (R := R) (s' := { s with token := 0 }) hs
  refine Does.body Tryz.func234 rfl rfl fun E fr hE => ?_
  refine At.app1 ?_
  refine At.fact (fun w hw => aft_form hR hnd hw) fun hA => ?_
  obtain ⟨A, c, hu, -⟩ := hA
  refine At.seq ?_
  refine At.region ?_
  refine L.op rfl (o_box rfl rfl fun b3 => ?_)
  refine L.nil ?_
  refine At.then ?_
  refine At.seq ?_
  refine Dr.start rfl ?_
  refine Dr.p 0 rfl rfl (by kernel_rfl) (ev_move rfl) ?_
  refine Dr.p 1 rfl rfl (by kernel_rfl) (ev_nil rfl) ?_
  refine Dr.p 2 rfl rfl (by kernel_rfl) (ev_field (off := 1) rfl rfl) ?_
  refine Dr.ld 3 rfl rfl (by kernel_rfl) (ev_load1 rfl rfl) (eng_cell fun _ _ _ => rfl) ?_
  refine Dr.p 4 rfl rfl (by kernel_rfl) (ev_field (off := 0) rfl rfl) ?_
  refine Dr.ld 5 rfl rfl (by kernel_rfl) (ev_load1 rfl rfl) (cellIs rfl) ?_
  refine Dr.ld 6 rfl rfl (by kernel_rfl) (ev_vget (a := id) (v := ptr (p.fb id)) rfl natKey rfl rfl (runs_get hR)) eng_runs ?_
  refine Dr.run 7 rfl rfl (by kernel_rfl) (o_alloc (z := .pointer none) rfl rfl fun b4 => ?_)
  refine Dr.kept [true, true, true] (by kernel_rfl) (Kept.cons eng_runs (Kept.cons (cellIs rfl) (Kept.cons (eng_cell fun _ _ _ => rfl) Kept.nil))) ?_
  refine Dr.run 8 rfl rfl (by kernel_rfl) (o_store1 rfl rfl rfl rfl rfl (by show 0 < 1; omega) ?_)
  refine Dr.kept [false, false, false] (by kernel_rfl) Kept.nil ?_
  refine Dr.done (by kernel_rfl) ?_
  refine At.then ?_
  refine At.seq (At.cut (X := Nat) (fun b => [(0, ptr e), (3, ptr b3), (4, ptr b4), (5, .pointer (some ⟨(p.ra id).gs, 0 + k * 3, none⟩)), (6, ptr b)]) (fun b => engX e p (S.leave id k) :: blk b3 268 (plL ⟨id, (k : Int), wh⟩).toArray :: runPtr b4 (ptr (p.fb id)) :: blk b 46 (nodeCells nd (.slice A nd.after.length c)).toArray :: fr) (fun _ => True) ?_ ?_)
  ·
    refine At.blkAs b4 #[ptr (p.fb id)] rfl ?_
    refine Dr.start rfl ?_
    refine Dr.p 0 rfl rfl (by kernel_rfl) (ev_move rfl) ?_
    refine Dr.ld 1 rfl rfl (by kernel_rfl) (ev_loadN (vs := plL ⟨id, (k : Int), wh⟩) rfl rfl rfl rfl) (rowAll rfl) ?_
    refine Dr.ld 3 rfl rfl (by kernel_rfl) (ev_load1 rfl rfl) (cellIs rfl) ?_
    refine Dr.p 4 rfl rfl (by kernel_rfl) (ev_nil rfl) ?_
    refine Dr.p 5 rfl rfl (by kernel_rfl) (ev_field (off := 0) rfl rfl) ?_
    refine Dr.p 6 rfl rfl (by kernel_rfl) (ev_field (off := 1) rfl rfl) ?_
    refine Dr.ld 7 rfl rfl (by kernel_rfl) (ev_load1 (v := (p.ra id).nv R) rfl rfl) (run_cell hR rfl) ?_
    refine Dr.p 8 rfl rfl (by kernel_rfl) (ev_field (off := 1) rfl rfl) ?_
    refine Dr.ld 9 rfl rfl (by kernel_rfl) (ev_load1 rfl rfl) (cellIs rfl) ?_
    refine Dr.p 10 rfl rfl (by kernel_rfl) (ev_ixN (z := 7) rfl rfl rfl rfl hkn) ?_
    refine Dr.ld 11 rfl rfl (by kernel_rfl) (ev_loadN (vs := nodeCells nd (.slice A nd.after.length c)) rfl rfl rfl rfl) (node_row hR hnd hu) ?_
    refine Dr.run2 2 12 rfl rfl rfl rfl (by kernel_rfl) (o_call rfl rfl rfl hE (leave_does (wh := wh) hR hs (by omega)) (Ent.trans (Ent.sel HasEng.sel) (Ent.refl _)) ?_) (o_alloc (z := .agg #[.int .i64 0, .int .i64 0, .int .i64 0, .int .i64 0, .int .i64 0, .int .i64 0, .slice none 0 0]) rfl rfl fun b6 => ?_)
    ·
      rintro v m ⟨rfl, rfl⟩
      refine At.app1 ?_
      refine Dr.kept [true, true, true, true, false] (by kernel_rfl) (Kept.cons (by first | exact node_row hRl hnd hu | exact node_row hR hnd hu) (Kept.cons (cellIs rfl) (Kept.cons (by first | exact run_cell hRl rfl | exact run_cell hR rfl) (Kept.cons (cellIs rfl) Kept.nil)))) ?_
      refine Dr.run 12 rfl rfl (by kernel_rfl) (o_alloc (z := .agg #[.int .i64 0, .int .i64 0, .int .i64 0, .int .i64 0, .int .i64 0, .int .i64 0, .slice none 0 0]) rfl rfl fun b6 => ?_)
      refine Dr.kept [true, true, true, true] (by kernel_rfl) (Kept.cons (by first | exact node_row hRl hnd hu | exact node_row hR hnd hu) (Kept.cons (cellIs rfl) (Kept.cons (by first | exact run_cell hRl rfl | exact run_cell hR rfl) (Kept.cons (cellIs rfl) Kept.nil)))) ?_
      refine Dr.p 13 rfl rfl (by kernel_rfl) (ev_assign rfl) ?_
      refine Dr.run 14 rfl rfl (by kernel_rfl) (o_storeN (vs := nodeCells nd (.slice A nd.after.length c)) rfl (m := 7) rfl rfl rfl rfl (by simp [nodeCells, Value.oneCell']) (by show 0 + 7 ≤ 7; omega) ?_)
      refine Dr.kept [false, false, false, false] (by kernel_rfl) Kept.nil ?_
      refine Dr.done (by kernel_rfl) ?_
      refine At.blkAs b6 (nodeCells nd (.slice A nd.after.length c)).toArray rfl ?_
      refine At.blkAs b3 (plL ⟨id, (k : Int), wh⟩).toArray rfl ?_
      exact At.meet b6 trivial ⟨rfl, rfl, rfl, rfl, rfl, trivial⟩ Ent.auto
    ·
      refine Dr.kept [true, true, true, true, true] (by kernel_rfl) (Kept.cons (by first | exact node_row hRl hnd hu | exact node_row hR hnd hu) (Kept.cons (cellIs rfl) (Kept.cons (by first | exact run_cell hRl rfl | exact run_cell hR rfl) (Kept.cons (cellIs rfl) (Kept.cons (rowAll rfl) Kept.nil))))) ?_
      refine Dr.run 2 rfl rfl (by kernel_rfl) (o_call rfl rfl rfl hE (leave_does (wh := wh) hR hs (by omega)) (Ent.trans (Ent.sel HasEng.sel) (Ent.refl _)) ?_)
      rintro v m ⟨rfl, rfl⟩
      refine At.app1 ?_
      refine Dr.kept [true, true, true, true, false] (by kernel_rfl) (Kept.cons (by first | exact node_row hRl hnd hu | exact node_row hR hnd hu) (Kept.cons (cellIs rfl) (Kept.cons (by first | exact run_cell hRl rfl | exact run_cell hR rfl) (Kept.cons (cellIs rfl) Kept.nil)))) ?_
      refine Dr.p 13 rfl rfl (by kernel_rfl) (ev_assign rfl) ?_
      refine Dr.run 14 rfl rfl (by kernel_rfl) (o_storeN (vs := nodeCells nd (.slice A nd.after.length c)) rfl (m := 7) rfl rfl rfl rfl (by simp [nodeCells, Value.oneCell']) (by show 0 + 7 ≤ 7; omega) ?_)
      refine Dr.kept [false, false, false, false] (by kernel_rfl) Kept.nil ?_
      refine Dr.done (by kernel_rfl) ?_
      refine At.blkAs b6 (nodeCells nd (.slice A nd.after.length c)).toArray rfl ?_
      refine At.blkAs b3 (plL ⟨id, (k : Int), wh⟩).toArray rfl ?_
      exact At.meet b6 trivial ⟨rfl, rfl, rfl, rfl, rfl, trivial⟩ Ent.auto
  rintro b6 -
  refine At.ent (l' := engX e p (S.leave id k) :: blk b3 268 (plL ⟨id, (k : Int), wh⟩).toArray :: runPtr b4 (ptr (p.fb id)) :: blk b6 46 (nodeCells nd (.slice A nd.after.length c)).toArray :: fr) (Ent.refl _) ?_
  refine At.seq ?_
  refine At.seq ?_
  refine Dr.start rfl ?_
  refine Dr.p 0 rfl rfl (by kernel_rfl) (ev_move rfl) ?_
  refine Dr.p 1 rfl rfl (by kernel_rfl) (ev_nil rfl) ?_
  refine Dr.p 2 rfl rfl (by kernel_rfl) (ev_field (off := 1) rfl rfl) ?_
  refine Dr.ld 3 rfl rfl (by kernel_rfl) (ev_load1 (v := .int .i64 s.tries) rfl rfl) (step_cell hRl hsl rfl) ?_
  refine Dr.p 4 rfl rfl (by kernel_rfl) (ev_field (off := 0) rfl rfl) ?_
  refine Dr.ld 5 rfl rfl (by kernel_rfl) (ev_load1 rfl rfl) (cellIs rfl) ?_
  refine Dr.p 6 rfl rfl (by kernel_rfl) (ev_lss rfl rfl rfl) ?_
  refine Dr.done (by kernel_rfl) ?_
  refine At.then ?_
  refine At.condD rfl (fun c32 => ?_) (fun c32 => ?_)
  ·
    refine At.seq ?_
    refine At.region ?_
    refine L.mv rfl rfl ?_
    refine L.nc rfl rfl ?_
    refine L.fa 0 rfl rfl rfl ?_
    refine L.op rfl (o_stStep (S := S.leave id k) (R := R.setS k { s with token := 0 }) (s := { s with token := 0 }) (j := 0) (s' := { s with token := 0, state := 4 }) hRl hsl rfl rfl rfl rfl (by omega) rfl rfl ?_)
    refine L.nil ?_
    refine At.then ?_
    refine At.seq ?_
    obtain ⟨T, hT⟩ : ∃ T, T = (S.leave id k).setR id (R.turned k s 4) := ⟨_, rfl⟩
    have hRT : T.getR id = some (R.turned k s 4) := by rw [hT]; exact FK.getR_setR hRl
    have hsT : (R.turned k s 4).steps[k]? = some { s with token := 0, state := 4 } := FK.setS_at hsl
    have hTn : T.now = S.now := by rw [hT, FK.leave_eq hR hs]; rfl
    have hTs : T.sets = S.sets := by rw [hT, FK.leave_eq hR hs]; rfl
    have hTd : T.seed = S.seed := by rw [hT, FK.leave_eq hR hs]; rfl
    have hTt : T.tms.length ≤ S.tms.length := by rw [hT]; exact FK.leave_tms
    refine At.ent (l' := engX e p T :: blk b3 268 (plL ⟨id, (k : Int), wh⟩).toArray :: runPtr b4 (ptr (p.fb id)) :: blk b6 46 (nodeCells nd (.slice A nd.after.length c)).toArray :: fr) (by rw [hT]; exact Ent.refl _) ?_
    rw [← hTd] at hrest hseed
    refine Dr.start rfl ?_
    refine Dr.p 0 rfl rfl (by kernel_rfl) (ev_move rfl) ?_
    refine Dr.p 1 rfl rfl (by kernel_rfl) (ev_nil rfl) ?_
    refine Dr.p 2 rfl rfl (by kernel_rfl) (ev_field (off := 6) rfl rfl) ?_
    refine Dr.ld 3 rfl rfl (by kernel_rfl) (ev_load1 rfl rfl) (eng_cell fun _ _ _ => rfl) ?_
    refine Dr.p 4 rfl rfl (by kernel_rfl) (ev_field (off := 0) rfl rfl) ?_
    refine Dr.ld 5 rfl rfl (by kernel_rfl) (ev_load1 rfl rfl) (cellIs rfl) ?_
    refine Dr.p 6 rfl rfl (by kernel_rfl) (ev_field (off := 1) rfl rfl) ?_
    refine Dr.ld 7 rfl rfl (by kernel_rfl) (ev_load1 rfl rfl) (cellIs rfl) ?_
    refine Dr.p 8 rfl rfl (by kernel_rfl) (ev_build (cs := #[.int .u64 id, .int .i64 (k : Int), .int .i64 1]) rfl rfl rfl rfl rfl) ?_
    refine Dr.p 9 rfl rfl (by kernel_rfl) (ev_move rfl) ?_
    refine Dr.ld 10 rfl rfl (by kernel_rfl) (ev_loadN (vs := nodeCells nd (.slice A nd.after.length c)) rfl rfl rfl rfl) (rowAll rfl) ?_
    refine Dr.p 11 rfl rfl (by kernel_rfl) (ev_move rfl) ?_
    refine Dr.p 12 rfl rfl (by kernel_rfl) (ev_nil rfl) ?_
    refine Dr.p 13 rfl rfl (by kernel_rfl) (ev_field (off := 1) rfl rfl) ?_
    refine Dr.ld 14 rfl rfl (by kernel_rfl) (ev_load1 (v := .int .i64 s.tries) rfl rfl) (step_cell hRT hsT rfl) ?_
    refine Dr.p 15 rfl rfl (by kernel_rfl) (ev_move rfl) ?_
    refine Dr.p 16 rfl rfl (by kernel_rfl) (ev_nil rfl) ?_
    refine Dr.p 17 rfl rfl (by kernel_rfl) (ev_field (off := 0) rfl rfl) ?_
    refine Dr.ld 18 rfl rfl (by kernel_rfl) (ev_load1 (v := .int .u64 T.seed) rfl rfl) (eng_cell fun _ _ _ => rfl) ?_
    refine Dr.run 19 rfl rfl (by kernel_rfl) (o_call rfl rfl rfl hE (rest_does nd A nd.after.length c s.tries T.seed h1 h2 h3 h4 h5 hseed) (Ent.refl _) ?_)
    rintro v m ⟨rfl, rfl⟩
    rw [List.nil_append]
    refine Dr.kept [false, false, false, true, true, true] (by kernel_rfl) (Kept.cons (cellIs rfl) (Kept.cons (cellIs rfl) (Kept.cons (eng_cell fun _ _ _ => rfl) Kept.nil))) ?_
    refine Dr.run 20 rfl rfl (by kernel_rfl) (o_call rfl rfl rfl hE (after_does (S := T) (restOf nd.base nd.cap nd.jitter s.tries T.seed) (by omega) hrest.1 hrest.2) (Ent.refl _) ?_)
    rintro v m ⟨rfl, rfl⟩
    refine At.app1 ?_
    refine Dr.kept [true, true, true] (by kernel_rfl) (Kept.cons (cellIs rfl) (Kept.cons (cellIs rfl) (Kept.cons (eng_cell fun _ _ _ => rfl) Kept.nil))) ?_
    refine Dr.run 21 rfl rfl (by kernel_rfl) (o_call rfl rfl rfl hE (set_eng (S := T) ⟨id, (k : Int), 1⟩ (T.later (restOf nd.base nd.cap nd.jitter s.tries T.seed).toNat) (by unfold FK.En.later; omega) (by unfold FK.En.later; omega) (by omega) (by omega)) (Ent.refl _) ?_)
    rintro v m ⟨rfl, rfl⟩
    refine At.app1 ?_
    refine Dr.kept [true, true, false] (by kernel_rfl) (Kept.cons (cellIs rfl) (Kept.cons (cellIs rfl) Kept.nil)) ?_
    refine Dr.done (by kernel_rfl) ?_
    refine At.then ?_
    refine At.ret ?_
    refine At.thenRet ?_
    refine At.end0 [_] rfl ⟨rfl, .inl ⟨by omega, rfl⟩⟩ ?_
    have hfin : T.setT ⟨id, (k : Int), 1⟩ (T.later (restOf nd.base nd.cap nd.jitter s.tries T.seed).toNat) = S.rests id k R s (restOf nd.base nd.cap nd.jitter s.tries S.seed).toNat := by rw [hTd, hT]; rfl
    rw [← hfin]
    exact Ent.cons (Ent.drop.trans (Ent.drop.trans Ent.drop))
  ·
    refine At.skip ?_
    refine At.then ?_
    refine At.seq ?_
    refine At.region ?_
    refine L.mv rfl rfl ?_
    refine L.nc rfl rfl ?_
    refine L.fa 0 rfl rfl rfl ?_
    refine L.op rfl (o_stStep (S := S.leave id k) (R := R.setS k { s with token := 0 }) (s := { s with token := 0 }) (j := 0) (s' := { s with token := 0, state := 6 }) hRl hsl rfl rfl rfl rfl (by omega) rfl rfl ?_)
    refine L.nil ?_
    refine At.then ?_
    refine At.seq ?_
    have hRT : ∀ T, ((S.leave id k).setR id ((R.turned k s 6).skips T)).getR id = some ((R.turned k s 6).skips T) := fun T => FK.getR_setR hRl
    refine At.ent (l' := engX e p ((S.leave id k).setR id ((R.turned k s 6).skips [])) :: runPtr b4 (ptr (p.fb id)) :: blk b3 268 (plL ⟨id, (k : Int), wh⟩).toArray :: blk b6 46 (nodeCells nd (.slice A nd.after.length c)).toArray :: fr) (Ent.cons (Ent.sel (.tail .head))) ?_
    refine At.region ?_
    refine L.ld rfl rfl rfl rfl ?_
    refine L.nc rfl rfl ?_
    refine L.fa 0 rfl rfl rfl ?_
    refine L.fa 1 rfl rfl rfl ?_
    refine L.val rfl (ev_load1 (v := (p.ra id).nv R) rfl rfl) (run_cell (hRT []) rfl) ?_
    refine L.pure rfl (ev_func rfl rfl) ?_
    refine L.op rfl (o_call rfl rfl rfl hE (order_does (l := R.fl.nodes) (F := 255) (cap := #[ptr b4]) (L := fun T => [engX e p ((S.leave id k).setR id ((R.turned k s 6).skips T)), runPtr b4 (ptr (p.fb id))]) hn (aft_lt hfit) (fun n hn x hx => (hfit n hn x hx).1) (fun _ _ => rfl) hG (fun n T w F hst hF => (by
  obtain ⟨F1, F2, f1, _, _, hp, _⟩ := hst
  exact eng_nodes (R := (R.turned k s 6).skips T) (hRT T) hp (fun q hq => hF q (f1 q hq)) hsm)) (fun n T j hj _ _ => (by
  refine (fails1_does (h := n) (c := b4) (hRT T) (by rw [turned_len]; exact hlen) hfit (by show R.fl.nodes.length ≤ 100; omega) hj).mono ?_
  rintro v m ⟨rfl, rfl⟩
  refine ⟨_, ⟨rfl, rfl⟩, ?_⟩
  rw [FK.setR_setR]
  have hfold : ({ (R.turned k s 6).skips T with steps := FK.skipK ((R.turned k s 6).skips T).fl.nodes ((R.turned k s 6).skips T).steps j } : FK.Rn) = (R.turned k s 6).skips (T ++ [j]) := by
    unfold FK.Rn.skips
    rw [List.foldl_append]
    rfl
  rw [hfold]
  exact Ent.refl _))) (Ent.refl _) ?_)
    rintro v m ⟨left, T, rfl, hord, hstuck, rfl⟩
    refine At.app2 ?_
    refine L.nil ?_
    refine At.then ?_
    refine At.region ?_
    refine L.mv rfl rfl ?_
    refine L.fa 0 rfl rfl rfl ?_
    refine L.ld rfl rfl rfl rfl ?_
    refine L.op rfl (o_call rfl rfl rfl hE (settle_does (hRT T) (by rw [turned_len]; omega) (by show (S.leave id k).queue.length ≤ 400; rw [FK.leave_queue]; omega) (by show (S.leave id k).tms.length ≤ 99999; have := FK.leave_tms (S := S) (id := id) (k := k); omega) (by show (S.leave id k).ends < _; rw [FK.leave_eq hR hs]; exact hends)) (Ent.refl _) ?_)
    rintro v m ⟨rfl, rfl⟩
    refine At.app1 ?_
    refine L.nil ?_
    exact At.end0 [engX e p (S.dies id k R s T)] rfl ⟨rfl, .inr ⟨by omega, left, T, hord, hstuck, rfl⟩⟩ (Ent.cons (Ent.drop.trans (Ent.drop.trans Ent.drop)))
end Go.Proofs.YtmeegfamopaljaaGreatDoor

namespace Go.Proofs.YtmeegfamopaljaaGreatDoor
open Go Go.RowKit Go.SL
variable {G : Env → Prop}
theorem pop_eng {e : Nat} {p : EA} {S : FK.En} (up : Nat) (hto : S.now ≤ up) (hto62 : up ≤ 4611686018427387904) (hsq : S.sets < 9223372036854775808) (hln : S.tms.length ≤ 99999) :
    Does Tryz.prog Good 236 [ptr p.w, .int .u64 up].toArray [engX e p S] fun v m => (∃ (x : FK.KD) (tms' : List FK.KD), FK.IsMin S.tms x tms' ∧ x.2 ≤ up ∧ v = .tuple #[plV x.1, .int .u64 x.2, .bool true] ∧ m = [engX e p { S with now := x.2, tms := tms' }]) ∨
      ((∀ y ∈ S.tms, up < y.2) ∧ v = .tuple #[plV ⟨0, 0, 0⟩, .int .u64 0, .bool false] ∧ m = [engX e p { S with now := up }]) := by
  refine Does.wheel fun W hW => (pop_does p.w up hW.inv (by rw [hW.now]; exact hto) hto62 (Nat.lt_of_le_of_lt hW.seq hsq) (by have := congrArg List.length hW.tms; rw [List.length_map] at this; omega)).mono ?_
  rintro v m (⟨S', x, h1, h2, h3, h4, h5, rfl, rfl⟩ | ⟨S', h1, h2, h3, h4, h5, rfl, rfl⟩)
  · rw [hW.tms] at h1
    exact ⟨_, ⟨S', x.2, S.sets, S'.tms.map FK.kd, rfl, ⟨h4, h5 ▸ hW.seq, h3, rfl⟩, .inl ⟨x, _, h1, h2, rfl, rfl⟩⟩, Ent.refl _⟩
  · rw [hW.tms] at h1 h2
    exact ⟨_, ⟨S', up, S.sets, S.tms, rfl, ⟨h4, h5 ▸ hW.seq, h3, h2⟩, .inr ⟨h1, rfl, rfl⟩⟩, Ent.refl _⟩
set_option maxRecDepth 10000 in
theorem cancel_does {e : Nat} {p : EA} {S : FK.En} {id : Nat} {R : FK.Rn} (hR : S.getR id = some R) (hn : R.steps.length ≤ 100) (hq : S.queue.length ≤ 400) (hl : S.tms.length ≤ 99999) (hends : S.ends < 9223372036854775807) : Does Tryz.prog G 209 [ptr e, natV id].toArray [engX e p S] fun v m => v = .tuple #[] ∧ m = [engX e p (S.finish id 4)] := by
  refine Does.body Tryz.func209 rfl rfl fun E fr hE => ?_
  refine At.app1 ?_
  refine At.region ?_
  refine L.mv rfl rfl ?_
  refine L.mv rfl rfl ?_
  refine L.op rfl (o_call rfl rfl rfl hE (finish_does hR hn hq hl hends) (Ent.refl _) ?_)
  rintro v m ⟨rfl, rfl⟩
  refine At.app1 ?_
  refine L.nil ?_
  exact At.end0 [_] rfl ⟨rfl, rfl⟩ (Ent.refl _)
end Go.Proofs.YtmeegfamopaljaaGreatDoor

namespace FK
def adStep (p : Nat × Nat) (c : UInt8) : Nat × Nat := ((p.1 + c.toNat) % 65521, (p.2 + (p.1 + c.toNat) % 65521) % 65521)
def adPair (bs : List UInt8) : Nat × Nat := bs.foldl adStep (1, 0)
def adler (bs : List UInt8) : Nat := (adPair bs).2 * 65536 + (adPair bs).1
theorem adPair_lt (bs : List UInt8) : (adPair bs).1 < 65521 ∧ (adPair bs).2 < 65521 := by
  have h : ∀ (l : List UInt8) (p : Nat × Nat), p.1 < 65521 ∧ p.2 < 65521 → (l.foldl adStep p).1 < 65521 ∧ (l.foldl adStep p).2 < 65521 := by
    intro l
    induction l with
    | nil => exact fun p h => h
    | cons c l ih => exact fun p _ => ih _ ⟨Nat.mod_lt _ (by omega), Nat.mod_lt _ (by omega)⟩
  exact h bs (1, 0) ⟨by decide, by decide⟩
end FK
namespace Go.Proofs.YtmeegfamopaljaaGreatDoor
open Go Go.RowKit Go.SL
variable {G : Env → Prop}
theorem wu32 {a : Nat} (h : a < 4294967296) : IntKind.u32.wrap (a : Int) = (a : Int) := by
  simp only [IntKind.wrap, IntKind.bits, IntKind.signed]
  simp
  omega
set_option maxRecDepth 10000 in
theorem sum_does {p : HP} {A : Option Addr} {bs : List UInt8} (c : Nat) (hp : Reads p A bs) (hl : bs.length ≤ 9223372036854775807) : Does Tryz.prog G 201 [.slice A bs.length c].toArray [p] fun v m => v = .int .u32 (FK.adler bs) ∧ m = [p] := by
  refine Does.body Tryz.func201 rfl rfl fun E fr hE => ?_
  refine At.app1 ?_
  refine At.seq ?_
  refine At.region ?_
  refine L.as rfl rfl ?_
  refine L.nil ?_
  refine At.then ?_
  refine At.seq ?_
  refine At.region ?_
  refine L.as rfl rfl ?_
  refine L.as rfl rfl ?_
  refine L.nil ?_
  refine At.then ?_
  refine At.seq ?_
  refine At.seq ?_
  refine At.region ?_
  refine L.mv rfl rfl ?_
  refine L.pure rfl (ev_lenS rfl rfl) ?_
  refine L.mv rfl rfl ?_
  refine L.nil ?_
  refine At.then ?_
  refine At.block ?_
  refine At.loop (X := Nat) (fun k => [(9, .int .i64 k), (8, .int .i64 bs.length), (7, .slice A bs.length c), (3, .int .u32 (FK.adPair (bs.take k)).1), (4, .int .u32 (FK.adPair (bs.take k)).2)]) (fun _ => p :: fr) (fun k => k ≤ bs.length) (fun k => bs.length - k) 0 (Nat.zero_le _) ⟨rfl, rfl, rfl, rfl, rfl, trivial⟩ (Ent.refl _) ?_
  intro k hk
  refine At.seq ?_
  refine At.region ?_
  refine L.pure rfl (ev_lss rfl rfl rfl) ?_
  refine L.nil ?_
  refine At.then ?_
  refine At.seq ?_
  refine At.condD rfl (fun c10 => ?_) (fun c10 => ?_)
  ·
    have hlt : k < bs.length := by omega
    obtain ⟨x, hx⟩ : ∃ x, bs[k]? = some x := ⟨bs[k], by simp [hlt]⟩
    obtain ⟨g, o, hA⟩ := hp.form (by intro h; rw [h] at hlt; simp at hlt)
    subst hA
    have htk : FK.adPair (bs.take (k + 1)) = FK.adStep (FK.adPair (bs.take k)) x := by rw [List.take_add_one, hx]; unfold FK.adPair; rw [List.foldl_append]; rfl
    obtain ⟨h1, h2⟩ := FK.adPair_lt (bs.take k)
    have hx8 : x.toNat < 256 := x.toNat_lt
    refine At.skip ?_
    refine At.then ?_
    refine At.seq ?_
    refine At.block ?_
    refine At.seq ?_
    refine At.region ?_
    refine L.pure rfl (ev_ixN (z := 1) rfl rfl rfl rfl hlt) ?_
    refine L.val rfl (ev_load1 (v := .int .u8 x.toNat) rfl rfl) (fun w hw => by have := hp.at (.head) rfl hx w hw; simpa using this) ?_
    refine L.as rfl rfl ?_
    refine L.nil ?_
    refine At.then ?_
    refine At.seq ?_
    refine At.region ?_
    refine L.mv rfl rfl ?_
    refine L.mv rfl rfl ?_
    refine L.pure rfl (ev_conv (r := (x.toNat : Int)) rfl rfl rfl (wu32 (by omega))) ?_
    refine L.pure rfl (ev_add (r := (((FK.adPair (bs.take k)).1 + x.toNat : Nat) : Int)) rfl rfl (wu32 (by omega))) ?_
    refine L.pure rfl (ev_rem (r := ((((FK.adPair (bs.take k)).1 + x.toNat) % 65521 : Nat) : Int)) rfl rfl (by omega) (rem_nat (b := 65521) (by omega) (by omega))) ?_
    refine L.as rfl rfl ?_
    refine L.nil ?_
    refine At.then ?_
    refine At.region ?_
    refine L.mv rfl rfl ?_
    refine L.mv rfl rfl ?_
    refine L.pure rfl (ev_add (r := (((FK.adPair (bs.take k)).2 + ((FK.adPair (bs.take k)).1 + x.toNat) % 65521 : Nat) : Int)) rfl rfl (wu32 (by omega))) ?_
    refine L.pure rfl (ev_rem (r := ((((FK.adPair (bs.take k)).2 + ((FK.adPair (bs.take k)).1 + x.toNat) % 65521) % 65521 : Nat) : Int)) rfl rfl (by omega) (rem_nat (b := 65521) (by omega) (by omega))) ?_
    refine L.as rfl rfl ?_
    refine L.nil ?_
    refine At.inBlock (At.then ?_)
    refine At.region ?_
    refine L.pure rfl (ev_add (r := ((k + 1 : Nat) : Int)) rfl rfl (by rw [w64 (by omega)]; omega)) ?_
    refine L.mv rfl rfl ?_
    refine L.nil ?_
    exact At.round (k + 1) hlt (by omega) ⟨rfl, rfl, rfl, by rw [htk]; rfl, by rw [htk]; rfl, trivial⟩ (Ent.refl _)
  ·
    have hke : k = bs.length := by omega
    rw [hke, List.take_length]
    obtain ⟨h1, h2⟩ := FK.adPair_lt bs
    refine At.exit ?_
    refine At.thenExit (At.roundExit (At.inBlockHit (At.then ?_)))
    refine At.seq ?_
    refine At.region ?_
    refine L.mv rfl rfl ?_
    refine L.pure rfl (ev_shl (r := (((FK.adPair bs).2 * 65536 : Nat) : Int)) rfl rfl (by omega) (by rw [← wu32 (a := (FK.adPair bs).2 * 65536) (by omega)]; congr 1)) ?_
    refine L.mv rfl rfl ?_
    refine L.pure rfl (ev_or (r := ((FK.adler bs : Nat) : Int)) rfl rfl (by
  rw [u32_or_nat _ _ (by omega) (by omega)]
  unfold FK.adler
  congr 1
  have := Nat.two_pow_add_eq_or_of_lt (i := 16) (b := (FK.adPair bs).1) (by omega) (FK.adPair bs).2
  rw [Nat.mul_comm, ← this])) ?_
    refine L.as rfl rfl ?_
    refine L.nil ?_
    refine At.then ?_
    refine At.ret ?_
    exact At.ret1 [_] rfl rfl ⟨rfl, rfl⟩ (Ent.refl _)
end Go.Proofs.YtmeegfamopaljaaGreatDoor

namespace FK
def sum4 (s : Nat) : List UInt8 := [UInt8.ofNat (s / 16777216), UInt8.ofNat (s / 65536), UInt8.ofNat (s / 256), UInt8.ofNat s]
def frame (bs : List UInt8) : List UInt8 := (encN bs.length ++ bs) ++ sum4 (adler (encN bs.length ++ bs))
end FK
namespace Go.Proofs.YtmeegfamopaljaaGreatDoor
open Go Go.RowKit Go.SL
variable {G : Env → Prop}
theorem Reads.row {A : Option Addr} {c : Nat} {bs : List UInt8} (h : bs ≠ [] → ∃ g, A = some ⟨g, 0, none⟩) : Reads (bytesAt (.slice A bs.length c) bs) A bs where
  form hb := let ⟨g, h⟩ := h hb; ⟨g, 0, h⟩
  cell w F hp b o hA j x hx := by
    obtain ⟨hown, _⟩ := hp
    obtain ⟨g, hg⟩ := h (by intro h; simp [h] at hx)
    rw [hA] at hg
    injection hg with hg
    injection hg with h1 h2
    subst h1; subst h2; subst hA
    have := hown.cells (g := b) rfl j (.int .u8 x.toNat) (by simp [bytesV, hx])
    rwa [add_plain] at this
theorem Reads.src {E : Env} {p : HP} {A : Option Addr} {bs : List UInt8} {l r : List HP} (h : Reads p A bs) (s : Sel p l r) : ∀ w, Holds E w l → SrcIs A (bytesV bs) w := fun w hw ad had j u hj => by
  simp only [bytesV, List.getElem?_map, Option.map_eq_some_iff] at hj
  obtain ⟨x, hx, rfl⟩ := hj
  obtain ⟨b, o, hA⟩ := h.form (by intro h; simp [h] at hx)
  have := h.at s hA hx w hw
  rw [had] at hA
  injection hA with hA
  subst hA
  rw [add_plain]
  exact this
theorem shrN (s k : Nat) : (s : Int).fdiv ((2 : Int) ^ k) = ((s / 2 ^ k : Nat) : Int) := by
  rw [Int.fdiv_eq_ediv_of_nonneg _ (Int.pow_nonneg (by omega))]
  rw [show ((2 : Int) ^ k) = ((2 ^ k : Nat) : Int) from (Int.natCast_pow 2 k).symm]
  rfl
theorem fill4 (a b c d : UInt8) : Instr.fill (fun i => some (i * 1, 1)) (Array.map (fun x => (Value.int .u8 0).cells[x % (Value.int .u8 0).cells.size]!) (Array.range (4 * 1))) ((List.map (fun x => x.fst) [((0 : Nat), Operand.tmp 16), (1, .tmp 19), (2, .tmp 22), (3, .tmp 24)]).zip (bytesV [a, b, c, d])) = some (bytesV [a, b, c, d]).toArray := by
  have e1 : Array.range (4 * 1) = #[0, 1, 2, 3] := rfl
  rw [e1]
  simp [Instr.fill, Value.cells, bytesV]
theorem byteOf (m : Nat) : IntKind.u8.wrap (m : Int) = ((UInt8.ofNat m).toNat : Int) := by
  rw [← low_byte]
  simp [IntKind.wrap, IntKind.bits, IntKind.signed]
set_option maxRecDepth 10000 in
set_option maxHeartbeats 1000000 in
theorem framed_does {p : HP} {A : Option Addr} {bs : List UInt8} (c : Nat) (hp : Reads p A bs) (hA : A = none → bs = []) (hl : bs.length ≤ 1099511627776) : Does Tryz.prog G 156 [.slice A bs.length c].toArray [p] fun v m => m = [bytesAt v (FK.frame bs), p] := by
  refine Does.body Tryz.func156 rfl rfl fun E fr hE => ?_
  refine At.app1 ?_
  refine At.seq ?_
  refine At.region ?_
  refine L.as rfl rfl ?_
  refine L.nil ?_
  refine At.then ?_
  refine At.seq ?_
  refine At.region ?_
  refine L.mv rfl rfl ?_
  refine L.pure rfl (ev_lenS rfl rfl) ?_
  refine L.pure rfl (ev_conv (r := ((bs.length : Nat) : Int)) rfl rfl rfl (by rw [mu64]; omega)) ?_
  refine L.op rfl (o_call rfl rfl rfl hE (number_does (.slice none 0 0) [] bs.length (by omega) (by simp)) Ent.row0 ?_)
  rintro v m rfl
  refine At.app1 ?_
  rw [List.nil_append]
  have hN : (FK.encN bs.length).length ≤ 10 := encN_le_ten (by omega)
  refine L.mv rfl rfl ?_
  refine L.op rfl (o_append rfl rfl infoByte rfl (by omega) rfl rfl (HasVal.sel (v := v)) (news := bytesV bs) (by rw [bytesV_length]; omega) (fun h => by rw [hA h]; rfl) (Reads.src hp (.tail (.head))) (by intro u hu; obtain ⟨x, _, rfl⟩ := List.mem_map.1 hu; rfl) (by unfold maxLen; omega) (by omega) fun v10 hv10 => ?_)
  refine At.formRow (HasVal.sel (v := v10)) ?_
  rintro A10 c10 rfl f1 f2 f3 f4 -
  refine At.ent (l' := bytesAt (.slice A10 ((FK.encN bs.length).length + bs.length) c10) (FK.encN bs.length ++ bs) :: p :: fr) ?_ ?_
  · show Ent _ (row 5 1 _ (FK.encN bs.length ++ bs).length (bytesV (FK.encN bs.length ++ bs)) :: p :: fr)
    rw [List.length_append, bytesV_append]
    exact Ent.refl _
  have hlen : (FK.encN bs.length ++ bs).length = (FK.encN bs.length).length + bs.length := List.length_append
  have hform : FK.encN bs.length ++ bs ≠ [] → ∃ g, A10 = some ⟨g, 0, none⟩ := fun hne => by
    have hp := List.length_pos_iff.2 hne
    cases A10 with
    | none => have := (f1 rfl).1; omega
    | some ad => obtain ⟨g, rfl⟩ := f2 ad rfl; exact ⟨g, rfl⟩
  rw [← hlen]
  refine L.as rfl rfl ?_
  refine L.nil ?_
  refine At.then ?_
  refine At.seq ?_
  refine At.region ?_
  refine L.mv rfl rfl ?_
  refine L.op rfl (o_call rfl rfl rfl hE (sum_does c10 (Reads.row (c := c10) hform) (by omega)) (Ent.refl _) ?_)
  rintro v m ⟨rfl, rfl⟩
  refine At.app1 ?_
  refine L.as rfl rfl ?_
  refine L.nil ?_
  refine At.then ?_
  refine At.seq ?_
  obtain ⟨X, hX⟩ : ∃ X, X = FK.encN bs.length ++ bs := ⟨_, rfl⟩
  have hfr : FK.frame bs = X ++ FK.sum4 (FK.adler X) := by rw [hX]; rfl
  rw [← hX] at hlen hform ⊢
  obtain ⟨s, hs⟩ : ∃ s, s = FK.adler X := ⟨_, rfl⟩
  rw [← hs] at hfr ⊢
  refine At.region ?_
  refine L.mv rfl rfl ?_
  refine L.mv rfl rfl ?_
  refine L.pure rfl (ev_shr (r := ((s / 16777216 : Nat) : Int)) rfl rfl (by omega) (by exact shrN s 24)) ?_
  refine L.pure rfl (ev_conv (r := ((UInt8.ofNat (s / 16777216)).toNat : Int)) rfl rfl rfl (byteOf _)) ?_
  refine L.mv rfl rfl ?_
  refine L.pure rfl (ev_shr (r := ((s / 65536 : Nat) : Int)) rfl rfl (by omega) (by exact shrN s 16)) ?_
  refine L.pure rfl (ev_conv (r := ((UInt8.ofNat (s / 65536)).toNat : Int)) rfl rfl rfl (byteOf _)) ?_
  refine L.mv rfl rfl ?_
  refine L.pure rfl (ev_shr (r := ((s / 256 : Nat) : Int)) rfl rfl (by omega) (by exact shrN s 8)) ?_
  refine L.pure rfl (ev_conv (r := ((UInt8.ofNat (s / 256)).toNat : Int)) rfl rfl rfl (byteOf _)) ?_
  refine L.mv rfl rfl ?_
  refine L.pure rfl (ev_conv (r := ((UInt8.ofNat s).toNat : Int)) rfl rfl rfl (byteOf _)) ?_
  refine L.op rfl (o_slices (m := 4) (z := .int .u8 0) (size := 1) (ps := [(0, .tmp 16), (1, .tmp 19), (2, .tmp 22), (3, .tmp 24)]) (vs := bytesV (FK.sum4 s)) (cs := (bytesV (FK.sum4 s)).toArray) rfl rfl rfl rfl (by omega) (by omega) rfl (fill4 _ _ _ _) fun b25 => ?_)
  refine L.op rfl (o_append rfl rfl infoByte rfl (by omega) rfl rfl (HasVal.sel (v := .slice A10 X.length c10)) (news := bytesV (FK.sum4 s)) rfl (fun h => by cases h) (srcIs (fun j u h => by rw [Nat.zero_add]; simpa using h)) (by intro u hu; obtain ⟨x, _, rfl⟩ := List.mem_map.1 hu; rfl) (by unfold maxLen; omega) (by omega) fun v26 hv26 => ?_)
  refine L.as rfl rfl ?_
  refine L.nil ?_
  refine At.then ?_
  refine At.ret ?_
  refine At.ret1 [bytesAt v26 (FK.frame bs), p] rfl rfl rfl ?_
  rw [hfr]
  show Ent _ (row 5 1 v26 (X ++ FK.sum4 s).length (bytesV (X ++ FK.sum4 s)) :: p :: fr)
  rw [List.length_append, bytesV_append]
  exact Ent.cons Ent.drop
end Go.Proofs.YtmeegfamopaljaaGreatDoor

namespace FK
def kput {K V : Type} [BEq K] (m : List (K × V)) (a : K) (v : V) : List (K × V) := match m.findIdx? (·.1 == a) with
  | some j => m.set j (a, v)
  | none => m ++ [(a, v)]
def kget {K V : Type} [BEq K] (m : List (K × V)) (a : K) : Option V := (m.find? (·.1 == a)).map (·.2)
theorem findIdx_mapV {K V W : Type} [BEq K] (m : List (K × V)) (f : V → W) (a : K) : (m.map fun p => (p.1, f p.2)).findIdx? (·.1 == a) = m.findIdx? (·.1 == a) := by
  induction m with
  | nil => rfl
  | cons p m ih => simp only [List.map_cons, List.findIdx?_cons, ih]
theorem kput_mapV {K V W : Type} [BEq K] (m : List (K × V)) (f : V → W) (a : K) (v : V) : kput (m.map fun p => (p.1, f p.2)) a (f v) = (kput m a v).map fun p => (p.1, f p.2) := by
  unfold kput
  rw [findIdx_mapV]
  cases m.findIdx? (·.1 == a) with
  | none => simp
  | some j => simp [List.map_set]
structure DOp where
  kind : Int
  name : ByteArray
  data : ByteArray
abbrev Fls := List (ByteArray × ByteArray)
structure Dsk where
  dur : Fls
  now : Fls
  pend : List DOp
  left : Int
  full : Int
  down : Bool
def doOp (fs : Fls) (o : DOp) : Fls := if o.kind = 2 then kput fs o.name (match kget fs o.name with | some w => w ++ o.data | none => o.data) else if o.kind = 1 then kput fs o.name o.data else if o.kind = 3 then fs.eraseP (·.1 == o.name) else fs
def Dsk.writes (d : Dsk) : Dsk × Int := if d.down = true ∨ d.left = 0 then ({ d with down := true }, 11) else if d.full = 0 then ({ d with left := Go.IntKind.i64.wrap (d.left - 1), full := -1 }, 10) else ({ d with left := Go.IntKind.i64.wrap (d.left - 1), full := Go.IntKind.i64.wrap (d.full - 1) }, 0)
def Dsk.tell (d : Dsk) (o : DOp) : Dsk × Int :=
  if d.writes.2 = 11 then ({ d.writes.1 with pend := d.writes.1.pend ++ [o] }, 11) else if d.writes.2 ≠ 0 then d.writes else if o.kind = 3 ∧ kget d.writes.1.now o.name = none then (d.writes.1, 9) else ({ d.writes.1 with now := doOp d.writes.1.now o, pend := d.writes.1.pend ++ [o] }, 0)
def Dsk.sync (d : Dsk) : Dsk × Int := if d.writes.2 ≠ 0 then d.writes else ({ d.writes.1 with dur := d.writes.1.pend.foldl doOp d.writes.1.dur, pend := [] }, 0)
def vol (fs : Fls) : Nat := (fs.map fun x => x.2.size).sum
def pvol (l : List DOp) : Nat := (l.map fun o => o.data.size).sum
theorem vol_get {fs : Fls} {n w : ByteArray} (h : kget fs n = some w) : w.size ≤ vol fs := by
  unfold kget at h
  induction fs with
  | nil => cases h
  | cons x fs ih =>
    rw [List.find?_cons] at h
    unfold vol at ih ⊢
    rw [List.map_cons, List.sum_cons]
    cases hx : x.1 == n with
    | true => rw [hx] at h; simp at h; subst h; omega
    | false => rw [hx] at h; have := ih h; omega
theorem kput_none {K V : Type} [BEq K] {m : List (K × V)} {a : K} (h : kget m a = none) (v : V) : kput m a v = m ++ [(a, v)] := by
  unfold kput
  have : m.findIdx? (·.1 == a) = none := by
    rw [List.findIdx?_eq_none_iff]
    intro x hx
    unfold kget at h
    cases hf : m.find? (·.1 == a) with
    | none =>
      have := List.find?_eq_none.1 hf x hx
      simpa using this
    | some y => rw [hf] at h; cases h
  rw [this]
theorem sum_set' {l : List Nat} : ∀ {j x y : Nat}, l[j]? = some x → (l.set j y).sum + x = l.sum + y := by
  induction l with
  | nil => intro j x y h; simp at h
  | cons a l ih =>
    intro j x y h
    cases j with
    | zero => simp at h; subst h; simp; omega
    | succ j => have := ih (y := y) (by simpa using h); simp only [List.set_cons_succ, List.sum_cons]; omega
theorem kget_idx {K V : Type} [BEq K] {m : List (K × V)} {a : K} {j : Nat} (h : m.findIdx? (·.1 == a) = some j) : ∃ x, m[j]? = some x ∧ kget m a = some x.2 := by
  induction m generalizing j with
  | nil => simp at h
  | cons y m ih =>
    rw [List.findIdx?_cons] at h
    unfold kget at ih ⊢
    rw [List.find?_cons]
    cases hy : y.1 == a with
    | true => rw [hy] at h; simp at h; subst h; exact ⟨y, rfl, rfl⟩
    | false =>
      rw [hy] at h
      simp only [Bool.false_eq_true, if_false, Option.map_eq_some_iff] at h
      obtain ⟨i, hi, rfl⟩ := h
      obtain ⟨x, h1, h2⟩ := ih hi
      exact ⟨x, by simpa using h1, h2⟩
theorem vol_put {fs : Fls} {n s : ByteArray} : vol (kput fs n s) + (match kget fs n with | some w => w.size | none => 0) = vol fs + s.size := by
  cases hf : fs.findIdx? (·.1 == n) with
  | none =>
    have hg : kget fs n = none := by
      unfold kget
      cases h : fs.find? (·.1 == n) with
      | none => rfl
      | some y =>
        have h1 := List.find?_some h
        have h2 := List.findIdx?_eq_none_iff.1 hf y (List.mem_of_find?_eq_some h)
        rw [h1] at h2; cases h2
    rw [kput_none hg, hg]
    simp [vol]
  | some j =>
    obtain ⟨x, h1, h2⟩ := kget_idx hf
    rw [h2]
    have : kput fs n s = fs.set j (n, s) := by unfold kput; rw [hf]
    rw [this]
    unfold vol
    rw [List.map_set]
    exact sum_set' (by rw [List.getElem?_map, h1]; rfl)
theorem vol_del {fs : Fls} {n : ByteArray} : vol (fs.eraseP (·.1 == n)) ≤ vol fs := by
  induction fs with
  | nil => exact Nat.le_refl _
  | cons x fs ih =>
    rw [List.eraseP_cons]
    unfold vol at ih ⊢
    cases x.1 == n with
    | true => simp
    | false => simp; omega
theorem vol_do (fs : Fls) (o : DOp) : vol (doOp fs o) ≤ vol fs + o.data.size := by
  unfold doOp
  split
  · have := @vol_put fs o.name (match kget fs o.name with | some w => w ++ o.data | none => o.data)
    cases h : kget fs o.name with
    | none => rw [h] at this; simp at this ⊢; omega
    | some w => rw [h] at this; simp [ByteArray.size_append] at this ⊢; omega
  · split
    · have := @vol_put fs o.name o.data
      omega
    · split
      · have := @vol_del fs o.name
        omega
      · omega
theorem vol_fold : ∀ (l : List DOp) (fs : Fls), vol (l.foldl doOp fs) ≤ vol fs + pvol l
  | [], _ => Nat.le_refl _
  | o :: l, fs => by
    have h1 := vol_fold l (doOp fs o)
    have h2 := vol_do fs o
    have h3 : pvol (o :: l) = o.data.size + pvol l := by simp [pvol]
    rw [List.foldl_cons, h3]
    omega
end FK

namespace Go.SL
open Go Go.RowKit
section
variable {P : Program} {E : Env} {n : Nat} {D : List Deferred} {ts : List (Nat × Value)} {l : List HP} {ops : Array Oper} {Q : Exit → Act → World → Prop} {i : Nat} {ty : TypeId} {pos : String} {af : Array Edge} {g : Option (Nat × Bool)} {K : Type} [BEq K] {enc : K → Value}
theorem vassoc_none {m : List (K × Value)} {a : K} (h : m.findIdx? (·.1 == a) = none) : vassoc m a = none := by
  have := findIdx_vassoc m a
  rw [h] at this
  simpa using this.symm
theorem o_vput {t kt et : TypeId} {x y z : Operand} {b : Nat} {m : List (K × Value)} {a : K} {v : Value} {r : List HP} {d : Option Tmp} {Kk : Act → World → Prop} (hd : d = none) (ht : P.underlying t = some (.map kt et)) (hk : KeyK P kt K enc) (hx : ev ts x = some (.map (some b))) (hy : ev ts y = some (enc a)) (hz : ev ts z = some v)
    (s : Sel (vmap enc b m) l r) (h : At E n D ts (vmap enc b (FK.kput m a v) :: r) Kk) : At E n D ts l (fun ac w => (Oper.mk d (.mapUpdate t x y z) ty pos af g).wp P ac w Kk Q) := by
  cases hf : m.findIdx? (·.1 == a) with
  | none =>
    have hp : FK.kput m a v = m ++ [(a, v)] := by unfold FK.kput; rw [hf]
    rw [hp] at h
    exact o_vnew hd ht hk hx hy hz s (vassoc_none hf) h
  | some j =>
    have hp : FK.kput m a v = m.set j (a, v) := by unfold FK.kput; rw [hf]
    rw [hp] at h
    intro ac w f hw
    subst hd
    have hw' := hw.sel s
    obtain ⟨es, c, hb, hm, hs1, hs2⟩ := vmapIs .head w hw'
    have h1 := hk.find w es.toList m a hm
    rw [hf] at h1
    have hg := MapKept.run_getObj_map (P := P) hb
    obtain ⟨hjl, hj1, _⟩ := List.findIdx?_eq_some_iff_getElem.1 hf
    have hmj : m[j]? = some m[j] := List.getElem?_eq_getElem hjl
    have hlen : es.toList.length = m.length := by simpa using congrArg List.length hm
    have hej : ∃ e, es[j]? = some e ∧ e.key = enc m[j].1 := by
      have := congrArg (fun l => l[j]?) hm
      simp only [List.getElem?_map, hmj, Option.map_some] at this
      cases he : es.toList[j]? with
      | none => rw [he] at this; cases this
      | some e =>
        rw [he] at this
        simp only [Option.map_some, Option.some.injEq, Prod.mk.injEq] at this
        exact ⟨e, by rw [← Array.getElem?_toList]; exact he, this.1⟩
    obtain ⟨e, he, hek⟩ := hej
    have hstay : (Instr.keyThatStays (((es[j]?).map (·.key)).getD (enc a)) (enc a)).run P w = .ok (enc a) w := by
      rw [he]
      simp [Instr.keyThatStays, hek, hk.bits _ _ hj1]
    have hs := MapKept.run_setObj_map (P := P) (.map (es.modify j fun e => { e with key := enc a, val := v }) c) hb
    have hr : (execOp ac.eval (Oper.mk none (.mapUpdate t x y z) ty pos af g)).run P w = .ok .skip { w with heap := w.heap.setIfInBounds b (.map (es.modify j fun e => { e with key := enc a, val := v }) c) } := by
      simp only [execOp, f.eval hx, f.eval hy, f.eval hz, Instr.mapUpdate, Sem.run_bind, run_underlying ht, Result.andThen_ok, hg, hk.check, h1, Option.map_some, hstay, hs, Sem.run_pure]
    show (Oper.mk none (.mapUpdate t x y z) ty pos af g).wp P ac w Kk Q
    unfold Oper.wp
    rw [hr]
    have hmod : ∀ k, ((es.modify j fun e => { e with key := enc a, val := v }).toList)[k]? = (es.toList[k]?).map fun e => if j = k then { e with key := enc a, val := v } else e := fun k => by
      rw [Array.toList_modify, List.getElem?_modify]
      rfl
    have hborn : (es.modify j fun e => { e with key := enc a, val := v }).toList.map (·.born) = es.toList.map (·.born) := by
      apply List.ext_getElem?
      intro k
      rw [List.getElem?_map, List.getElem?_map, hmod, Option.map_map]
      congr 1
      funext e
      simp only [Function.comp_apply]
      split <;> rfl
    refine h ac _ f (hw'.setVMap ?_ (fun y hy => ?_) ?_)
    · apply List.ext_getElem?
      intro k
      rw [List.getElem?_map, hmod, List.getElem?_map]
      have hmk := congrArg (fun l => l[k]?) hm
      simp only [List.getElem?_map] at hmk
      by_cases hjk : j = k
      · subst hjk
        rw [List.getElem?_set_self hjl]
        rw [Array.getElem?_toList, he]
        simp
      · rw [List.getElem?_set_ne hjk, ← hmk, Option.map_map]
        congr 1
        funext e
        simp [hjk]
    · have : y.born ∈ (es.modify j fun e => { e with key := enc a, val := v }).toList.map (·.born) := List.mem_map_of_mem (f := (·.born)) hy
      rw [hborn] at this
      obtain ⟨e', he', hq⟩ := List.mem_map.1 this
      rw [← hq]
      exact hs1 e' he'
    · rw [hborn]
      exact hs2
end
end Go.SL
