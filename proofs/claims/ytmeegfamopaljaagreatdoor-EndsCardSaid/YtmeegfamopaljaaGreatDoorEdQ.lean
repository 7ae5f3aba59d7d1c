/- The engine's New, Submit. -/
import Derived.Test.YtmeegfamopaljaaGreatDoorEdP
import Derived.Test.YtmeegfamopaljaaGreatDoorEdO
import Derived.Test.YtmeegfamopaljaaGreatDoorEdH
import Derived.Test.YtmeegfamopaljaaGreatDoorEdG
import Derived.Test.YtmeegfamopaljaaGreatDoorEdJ
namespace Go.Proofs.YtmeegfamopaljaaGreatDoor
open Go Go.RowKit Go.SL
open FK (dy ch bK)
variable {G : Env → Prop}
theorem tU (S : FK.En) (p : EA) (id : Nat) : (dw S p).eraseP (·.1 == id) = dw (S.unrun id) p := by
 unfold dw FK.En.unrun
 rw [List.eraseP_map]
 rfl
theorem Ent.sub : ∀ {a b : List HP} {r : List HP}, b.Sublist a → Ent (a ++ r) (b ++ r)
 | _, _, _, .slnil => Ent.refl _
 | _ :: _, _, _, .cons _ h => Ent.drop.trans (Ent.sub h)
 | _ :: _, _, _, .cons_cons _ h => Ent.cons (Ent.sub h)
theorem wl {p : EA} {L M : List (Nat × FK.Rn)} {r : List HP} (h : M.Sublist L) : Ent (d9 p L :: r) (d9 p M :: r) :=
 (Ent.unall (m := eI p L)).trans ((Ent.sub (h.map _)).trans (Ent.all (m := eI p M)))
section
variable {P : Program} {E : Env} {n : Nat} {D : List Deferred} {ts : List (Nat × Value)} {l r : List HP} {Q : Exit → Act → World → Prop} {ty : TypeId} {pos : String} {af : Array Edge} {g : Option (Nat × Bool)} {t : TypeId} {x y z : Operand} {e : Nat} {p : EA} {S : FK.En} {K : Act → World → Prop}
theorem y8 [H : HasEng l e p S r] {id : Nat} {t kt et : TypeId} {d : Option Tmp} (hd : d = none) (ht : P.underlying t = some (.map kt et)) (hk : KeyK P kt Nat bc) (hx : ev ts x = some (.map (some p.rm))) (hy : ev ts y = some (bc id))
 (h : At E n D ts (ap e p (S.unrun id) :: r) K) : At E n D ts l (fun ac w => (Oper.mk d (.call { callee := .builtin .delete, args := #[x, y], argTypes := #[t, kt] }) ty pos af g).wp P ac w K Q) := by
 refine eC (p := cJ S) (fun w hw => kq hw) fun hn => ?_
 refine At.ent (Ent.sel H.sel) (bn ?_)
 show At E n D ts (HP.pure (cJ S) :: cD e (hY S p) S.queue :: bF bc p.rm (dw S p) :: d9 p S.runs :: bF bc p.tm (cm S) :: cv p.w S.now S.sets S.tms :: r) _
 refine pX (b := p.rm) (a := id) hd ht hk hx hy (.tail (.tail .head)) ?_
 rw [tU]
 refine At.ent ?_ h
 refine Ent.trans ?_ (Ent.all (m := iC e p (S.unrun id)))
 have hn' : cJ (S.unrun id) := hn.sublist ((List.eraseP_sublist).map _)
 refine (Ent.drop1 (.tail .head)).trans ((Ent.sel (.tail .head)).trans ((Ent.cons (Ent.cons (wl (M := (S.unrun id).runs) List.eraseP_sublist))).trans ?_))
 exact Ent.pure hn'
def EA.add (p : EA) (id b : Nat) (a : RA) : EA := { p with fb := dy p.fb id b, ra := dy p.ra id a }
theorem zb {id b : Nat} {a : RA} {R : FK.Rn} {t kt et : TypeId} {d : Option Tmp} (hd : d = none) (ht : P.underlying t = some (.map kt et)) (hk : KeyK P kt Nat bc) (hx : ev ts x = some (.map (some p.rm))) (hy : ev ts y = some (bc id)) (hz : ev ts z = some (aL b)) (hn : ∀ r ∈ S.runs, r.1 ≠ id)
 (h : At E n D ts (ap e (p.add id b a) { S with runs := S.runs ++ [(id, R)] } :: r) K) : At E n D ts (io b a R :: ap e p S :: r) (fun ac w => (Oper.mk d (.mapUpdate t x y z) ty pos af g).wp P ac w K Q) := by
 refine eC (p := cJ S) (fun w hw => kq (l := io b a R :: ap e p S :: r) hw) fun hok => ?_
 refine At.ent (Ent.sel (.tail .head)) (bn ?_)
 show At E n D ts (HP.pure (cJ S) :: cD e (hY S p) S.queue :: bF bc p.rm (dw S p) :: d9 p S.runs :: bF bc p.tm (cm S) :: cv p.w S.now S.sets S.tms :: io b a R :: r) _
 have hv : cw (dw S p) id = none := by
  refine wk ?_
  unfold FK.En.getR
  cases hf : S.runs.find? (·.1 == id) with
  | none => rfl
  | some u => exact absurd (by simpa using List.find?_some hf) (hn u (List.mem_of_find?_eq_some hf))
 refine pW (b := p.rm) (a := id) (v := aL b) hd ht hk hx hy hz (.tail (.tail .head)) hv ?_
 refine At.ent ?_ h
 have hM : dw S p ++ [(id, aL b)] = dw { S with runs := S.runs ++ [(id, R)] } (p.add id b a) := by
  unfold dw
  rw [List.map_append]
  have h1 : (S.runs.map fun r => (r.1, aL (p.fb r.1))) = S.runs.map fun r => (r.1, aL ((p.add id b a).fb r.1)) := List.map_congr_left fun r hr => by
   show _ = (r.1, aL (dy p.fb id b r.1))
   rw [bK _ _ (hn r hr)]
  rw [h1]
  show _ = _ ++ [(id, aL (dy p.fb id b id))]
  rw [ch]
 have hL : eI p S.runs ++ [io b a R] = eI (p.add id b a) (S.runs ++ [(id, R)]) := by
  unfold eI
  rw [List.map_append]
  have h1 : (S.runs.map fun r => io (p.fb r.1) (p.ra r.1) r.2) = S.runs.map fun r => io ((p.add id b a).fb r.1) ((p.add id b a).ra r.1) r.2 := List.map_congr_left fun r hr => by
   show _ = io (dy p.fb id b r.1) (dy p.ra id a r.1) r.2
   rw [bK _ _ (hn r hr), bK _ _ (hn r hr)]
  rw [h1]
  show _ = _ ++ [io (dy p.fb id b id) (dy p.ra id a id) R]
  rw [ch, ch]
 have hok' : cJ { S with runs := S.runs ++ [(id, R)] } := by
  unfold cJ
  rw [List.map_append, List.nodup_append]
  refine ⟨hok, by simp, fun u hu v hv => ?_⟩
  obtain ⟨r, hr, rfl⟩ := List.mem_map.1 hu
  simp at hv
  subst hv
  exact hn r hr
 rw [hM]
 refine Ent.trans ?_ (Ent.all (m := iC e (p.add id b a) { S with runs := S.runs ++ [(id, R)] }))
 have hX : Ent (io b a R :: d9 p S.runs :: bF bc p.tm (cm S) :: cv p.w S.now S.sets S.tms :: r) (d9 (p.add id b a) (S.runs ++ [(id, R)]) :: bF bc p.tm (cm S) :: cv p.w S.now S.sets S.tms :: r) := by
  refine (Ent.cons (Ent.unall (m := eI p S.runs))).trans ?_
  have hp : (io b a R :: (eI p S.runs ++ (bF bc p.tm (cm S) :: cv p.w S.now S.sets S.tms :: r))).Perm (eI (p.add id b a) (S.runs ++ [(id, R)]) ++ (bF bc p.tm (cm S) :: cv p.w S.now S.sets S.tms :: r)) := by
   rw [← hL, List.append_assoc]
   exact List.perm_middle.symm
  exact (Ent.perm hp).trans (Ent.all (m := eI (p.add id b a) (S.runs ++ [(id, R)])))
 refine (Ent.drop1 (.tail .head)).trans ?_
 refine (bX (.tail .head) .head (.tail (.tail (.tail .head)))).trans ?_
 exact (Ent.pure hok').trans (Ent.cons (Ent.cons (Ent.cons hX)))
end
end Go.Proofs.YtmeegfamopaljaaGreatDoor

namespace Go.Proofs.YtmeegfamopaljaaGreatDoor
open Go Go.RowKit Go.SL
variable {G : Env → Prop}
def p0 (rm tm w : Nat) : EA := ⟨rm, tm, w, fun _ => 0, fun _ => ⟨0, 0, 0, 0, []⟩⟩
theorem ring0 : FK.RingOk 0 0 [] (fun _ => ⟨0, 0, 0⟩) := ⟨Nat.le_refl _, Nat.zero_le _, .inr ⟨rfl, rfl⟩, fun k p h => by simp at h⟩
set_option maxRecDepth 10000 in
theorem vr : Does Tryz.prog G 106 [].toArray [] fun v m => ∃ e p, v = aL e ∧ m = [ap e p FK.En.fresh] := by
 refine Does.body Tryz.func106 Z Z fun E fr hE => ?_
 refine ay (At.seq (At.region (L.as Z Z (L.nil (At.then (At.seq (At.region (L.op Z (fT bc Z fun rm => (L.op Z (fT bc Z fun tm => (L.op Z (ah Z Z Z hE (ze 0) (Ent.refl _) ?_)))))))))))))
 rintro v m ⟨w, rfl, rfl⟩
 refine ai ?_
 refine L.pure Z (bg (cs := pR ⟨0, rm, tm, w, 0, 0, 0⟩ (.slice none 0 0) 0 0) Z Z Z Z Z) ?_
 refine L.op Z (cc Z Z fun e => (L.as Z Z (L.nil (At.then (At.ret ?_)))))
 refine aA [ap e (p0 rm tm w) FK.En.fresh] rfl Z ⟨e, p0 rm tm w, rfl, rfl⟩ ?_
 have hw : Ent (bw w (xO 0) :: fr) (cv w 0 0 [] :: fr) := (Ent.pure (⟨rfl, Nat.le_refl _, inv0 (by omega), rfl⟩ : WOk 0 0 [] (xO 0))).trans ((Ent.all (m := [HP.pure (WOk 0 0 [] (xO 0)), bw w (xO 0)])).trans (Ent.ex (f := fun W : FK.WS => HP.all [HP.pure (WOk 0 0 [] W), bw w W]) (xO 0)))
 refine (bX .head (.tail (.tail .head)) (.tail .head)).trans ?_
 refine Ent.trans (b := kG e ⟨0, rm, tm, w, 0, 0, 0⟩ (.slice none 0 0) 0 0 :: bF bc rm [] :: bF bc tm [] :: cv w 0 0 [] :: fr) (Ent.cons (Ent.cons (Ent.cons hw))) ?_
 refine Ent.trans (Ent.cons (Ent.row0 (e := 268) (size := 3))) ?_
 refine (eU (e := e) (C := ⟨0, rm, tm, w, 0, 0, 0⟩) (q := []) (N := 0) (f := 0) (rg := fun _ => ⟨0, 0, 0⟩) ring0).trans ?_
 refine Ent.trans (b := cD e ⟨0, rm, tm, w, 0, 0, 0⟩ [] :: bF bc rm [] :: d9 (p0 rm tm w) [] :: bF bc tm [] :: cv w 0 0 [] :: fr) (Ent.cons (Ent.cons (Ent.all (m := [])))) ?_
 exact (Ent.pure (show cJ FK.En.fresh from List.nodup_nil)).trans (Ent.all (m := iC e (p0 rm tm w) FK.En.fresh))
theorem zP {S T : FK.En} (h : FK.qX S T) : T.now = S.now ∧ T.seed = S.seed ∧ T.tms = S.tms ∧ T.sets = S.sets ∧ T.queue = S.queue ∧ T.lastRun = S.lastRun ∧ T.runs.Sublist S.runs := by
 unfold FK.qX at h
 split at h
 · obtain ⟨o, _, rfl⟩ := h
   cases o with
   | none => exact ⟨rfl, rfl, rfl, rfl, rfl, rfl, List.Sublist.refl _⟩
   | some m => exact ⟨rfl, rfl, rfl, rfl, rfl, rfl, List.eraseP_sublist⟩
 · subst h; exact ⟨rfl, rfl, rfl, rfl, rfl, rfl, List.Sublist.refl _⟩
def fJ (n k : Nat) : List FK.Sp := List.replicate k FK.s1 ++ List.replicate (n - k) FK.s0
theorem tM {n k : Nat} (h : k ≤ n) : (fJ n k).length = n := by simp [fJ]; omega
theorem wd {n k : Nat} (h : k < n) : (fJ n k)[k]? = some FK.s0 := by
 unfold fJ
 rw [List.getElem?_append_right (by simp), List.length_replicate, Nat.sub_self, List.getElem?_replicate, if_pos (by omega)]
theorem tL {n k : Nat} (h : k < n) : (fJ n k).set k FK.s1 = fJ n (k + 1) := by
 unfold fJ
 rw [List.set_append_right _ _ (by simp), List.length_replicate, Nat.sub_self]
 obtain ⟨m, hm⟩ : ∃ m, n - k = m + 1 := ⟨n - k - 1, by omega⟩
 rw [hm, List.replicate_succ, List.set_cons_zero, show n - (k + 1) = m by omega, List.replicate_succ', List.append_assoc]
 rfl
theorem yS (n : Nat) : ((List.range n).flatMap fun _ => pN FK.s0) = pM (fJ n 0) := by
 unfold pM fJ
 rw [List.flatMap_def, List.flatMap_def]
 congr 1
 simp only [List.replicate_zero, List.nil_append, Nat.sub_zero, List.map_replicate]
 apply List.ext_getElem <;> simp
set_option maxRecDepth 10000 in
set_option maxHeartbeats 2000000 in
theorem mg {e : Nat} {p : EA} {S : FK.En} {fl : FK.Flow} {nv : Value} (hn1 : 1 ≤ fl.nodes.length) (hn2 : fl.nodes.length ≤ 100) (hfit : vT fl) (hd0 : 0 ≤ fl.deadline) (hd : fl.deadline ≤ 4611686018427387904) (hnow : S.now ≤ 4611686018427387904) (hq : S.queue.length ≤ 300) (hl : S.tms.length ≤ 99998) (hsets : S.sets < 9223372036854775807) (hids : ∀ r ∈ S.runs, r.1 ≤ S.lastRun) (hlr : S.lastRun < 9223372036854775807) :
 Does Tryz.prog G 97 [aL e, .agg #[.int .i64 fl.deadline, nv]].toArray [ap e p S, nodesOwn nv fl.nodes] fun v m => ∃ S0 p', FK.qX S S0 ∧ v = bc (S.lastRun + 1) ∧ m = [ap e p' (S0.submit fl)] := by
 have hlat : ∀ (T : FK.En) n, T.now ≤ 4611686018427387904 → T.now ≤ T.later n := fun T n h => by unfold FK.En.later; omega
 have hlat2 : ∀ (T : FK.En) n, T.later n ≤ 4611686018427387904 := fun T n => by unfold FK.En.later; omega
 refine Does.body Tryz.func97 Z Z fun E fr hE => ?_
 refine aF (ln (.tail .head) fun vs hvs => (aJ .head ?_))
 rintro A c rfl a1 a2 a3 a4 _
 obtain ⟨gn, rfl⟩ : ∃ g, A = some ⟨g, 0, none⟩ := by
  cases A with
  | none => have := (a1 rfl).1; omega
  | some ad => obtain ⟨g, rfl⟩ := a2 ad rfl; exact ⟨g, rfl⟩
 refine At.ent (Ent.cons (Ent.all (m := bB vs fl.nodes))) ?_
 refine At.ent (l' := row 46 7 (.slice (some ⟨gn, 0, none⟩) fl.nodes.length c) fl.nodes.length (bl fl.nodes vs) :: dJ vs fl.nodes :: ap e p S :: fr) (Ent.refl _) ?_
 refine At.seq (At.region (L.op Z (cc Z Z fun b3 => (L.as Z Z (L.nil (At.then ?_))))))
 refine At.seq (At.cut (X := FK.En) (fun _ => [(0, aL e), (3, aL b3)]) (fun T => ap e p T :: blk b3 29 #[.int .i64 fl.deadline, .slice (some ⟨gn, 0, none⟩) fl.nodes.length c] :: row 46 7 (.slice (some ⟨gn, 0, none⟩) fl.nodes.length c) fl.nodes.length (bl fl.nodes vs) :: dJ vs fl.nodes :: fr) (fun T => FK.qX S T) ?_ ?_)
 ·
  refine At.seq (At.region (L.mv Z Z (aN Z Z (aE 1 Z Z Z ?_))))
  refine L.val Z (aa (v := .map (some p.rm)) Z Z) (aQ fun _ _ _ => rfl) ?_
  refine L.val Z (vD (m := dw S p) Z Z) cS ?_
  refine L.pure Z (aV (r := decide (S.runs.length = 6)) Z Z (by rw [List.length_map]; exact decide_eq_decide.2 (by omega))) ?_
  refine L.nil (At.then ?_)
  refine aC Z (fun c14 => ?_) (fun c14 => ?_)
  ·
   refine At.seq (At.region (L.mv Z Z (L.op Z (ah Z Z Z hE mj (Ent.sel (.tail (.tail (.tail (.head))))) ?_))))
   rintro v m ⟨⟨o, ho, rfl⟩, rfl⟩
   refine ai (L.mv Z Z (L.ex Z Z Z (L.ex Z Z Z (L.as Z Z (L.as Z Z (L.nil (At.then (At.seq ?_))))))))
   by_cases HO : o = none
   ·
    subst HO
    refine At.region (L.mv Z Z (L.nil (At.then (aj Z (At.skip ?_)))))
    exact bk S (by unfold FK.qX; rw [if_pos c14]; exact ⟨none, ho, rfl⟩) ⟨rfl, rfl, trivial⟩ (Ent.refl _)
   ·
    obtain ⟨x, rfl⟩ := Option.ne_none_iff_exists'.1 HO
    refine At.region (L.mv Z Z (L.nil (At.then (aR Z (At.region (L.mv Z Z (aN Z Z (aE 1 Z Z Z ?_))))))))
    refine L.val Z (aa (v := .map (some p.rm)) Z Z) (aQ fun _ _ _ => rfl) ?_
    refine L.mv Z Z (L.op Z (y8 (id := x.1) Z Z dD Z Z (L.nil ?_)))
    exact bk (S.unrun x.1) (by unfold FK.qX; rw [if_pos c14]; exact ⟨some x, ho, rfl⟩) ⟨rfl, rfl, trivial⟩ (Ent.refl _)
  ·
   refine At.skip ?_
   exact bk S (by unfold FK.qX; rw [if_neg c14]) ⟨rfl, rfl, trivial⟩ (Ent.sel (.tail (.tail (.tail .head))))
 intro T hT
 obtain ⟨k1, k2, k3, k4, k5, k6, k7⟩ := zP hT
 have hidT : ∀ r ∈ T.runs, r.1 ≤ T.lastRun := fun r hr => by rw [k6]; exact hids r (k7.subset hr)
 refine At.ent (l' := ap e p T :: blk b3 29 #[.int .i64 fl.deadline, .slice (some ⟨gn, 0, none⟩) fl.nodes.length c] :: row 46 7 (.slice (some ⟨gn, 0, none⟩) fl.nodes.length c) fl.nodes.length (bl fl.nodes vs) :: dJ vs fl.nodes :: fr) (Ent.refl _) ?_
 refine At.seq (At.region (L.mv Z Z (aN Z Z (aE 7 Z Z Z ?_))))
 refine L.val Z (aa (v := .int .u64 T.lastRun) Z Z) (aQ fun _ _ _ => rfl) ?_
 refine L.pure Z (aO (r := ((T.lastRun + 1 : Nat) : Int)) Z Z (by rw [lE]; omega)) ?_
 refine aN Z Z (aE 7 Z Z Z ?_)
 refine L.op Z (mT (S := T) (S' := { T with lastRun := T.lastRun + 1 }) Z Z Z (by omega) Z (fun _ _ _ => rfl) Z Z Z Z Z Z ?_)
 refine L.nil (At.then (At.seq (Dr.start Z ?_)))
 refine dL 0 Z Z (am (vs := [.int .i64 fl.deadline, .slice (some ⟨gn, 0, none⟩) fl.nodes.length c]) Z Z Z Z) (av Z) ?_
 refine dP 1 Z Z (ab (off := 1) Z Z) (dL 2 Z Z (aa Z Z) (ae Z) (dP 3 Z Z (aP Z Z) ?_))
 refine dR 4 Z Z (vp (zc := pN FK.s0) Z Z Cf Z Z (by omega) Z (by omega) (by omega) fun gs => ?_)
 refine Dr.kept [true, true] (by kernel_rfl) (Kept.cons (ae Z) (Kept.cons (av Z) Kept.nil)) ?_
 refine dP 5 Z Z (bg (cs := #[.int .i64 fl.deadline, .slice (some ⟨gn, 0, none⟩) fl.nodes.length c, .int .i64 1, .slice (some ⟨gs, 0, none⟩) fl.nodes.length fl.nodes.length, .int .u64 0]) Z Z Z Z Z) ?_
 refine dR 6 Z Z (cc Z Z fun rb => ?_)
 refine Dr.kept [true, true] (by kernel_rfl) (Kept.cons (ae Z) (Kept.cons (av Z) Kept.nil)) ?_
 refine dP 7 Z Z (az Z) (dE (At.then (At.seq (At.seq ?_))))
 refine At.ent (l' := row 265 3 (.slice (some ⟨gs, 0, none⟩) fl.nodes.length fl.nodes.length) fl.nodes.length (pM (fJ fl.nodes.length 0)) :: blk rb 263 #[.int .i64 fl.deadline, .slice (some ⟨gn, 0, none⟩) fl.nodes.length c, .int .i64 1, .slice (some ⟨gs, 0, none⟩) fl.nodes.length fl.nodes.length, .int .u64 0] :: ap e p { T with lastRun := T.lastRun + 1 } :: blk b3 29 #[.int .i64 fl.deadline, .slice (some ⟨gn, 0, none⟩) fl.nodes.length c] :: row 46 7 (.slice (some ⟨gn, 0, none⟩) fl.nodes.length c) fl.nodes.length (bl fl.nodes vs) :: dJ vs fl.nodes :: fr) ?_ ?_
 · refine (Ent.sel (.tail .head)).trans (cq (Nat.le_refl _) (show fl.nodes.length ≤ 9223372036854775807 by omega) (by rw [List.size_toArray, dY (k := 3) (fun _ => rfl), List.length_range]) ?_)
   rw [List.toList_toArray, yS, List.take_of_length_le (by rw [kH, tM (Nat.zero_le _)]; omega)]
 refine At.region (L.mv Z Z (aN Z Z (aE 3 Z Z Z (aX Z Z Z Z (L.pure Z (aP Z Z) (L.mv Z Z (L.nil (At.then (At.block ?_)))))))))
 refine aT (X := Nat) (fun k => [(45, .int .i64 k), (44, .int .i64 fl.nodes.length), (7, aL rb), (0, aL e), (3, aL b3)]) (fun k => row 265 3 (.slice (some ⟨gs, 0, none⟩) fl.nodes.length fl.nodes.length) fl.nodes.length (pM (fJ fl.nodes.length k)) :: blk rb 263 #[.int .i64 fl.deadline, .slice (some ⟨gn, 0, none⟩) fl.nodes.length c, .int .i64 1, .slice (some ⟨gs, 0, none⟩) fl.nodes.length fl.nodes.length, .int .u64 0] :: ap e p { T with lastRun := T.lastRun + 1 } :: blk b3 29 #[.int .i64 fl.deadline, .slice (some ⟨gn, 0, none⟩) fl.nodes.length c] :: row 46 7 (.slice (some ⟨gn, 0, none⟩) fl.nodes.length c) fl.nodes.length (bl fl.nodes vs) :: dJ vs fl.nodes :: fr) (fun k => k ≤ fl.nodes.length) (fun k => fl.nodes.length - k) 0 (Nat.zero_le _) ⟨rfl, rfl, rfl, rfl, rfl, trivial⟩ (Ent.refl _) ?_
 intro k hk
 refine At.seq (At.region (L.pure Z (bf Z Z Z) (L.nil (At.then (At.seq ?_)))))
 refine aC Z (fun c46 => ?_) (fun c46 => ?_)
 ·
  have hlt : k < fl.nodes.length := by omega
  refine At.skip (At.then (At.seq (At.block (At.seq (At.region (L.mv Z Z (L.as Z Z (L.nil (At.then (At.region (L.mv Z Z (aN Z Z (aE 3 Z Z Z (aX Z Z Z Z (L.mv Z Z (L.pure Z (bD (z := 3) Z Z Z Z hlt) (aE 0 Z Z Z ?_)))))))))))))))))
  refine L.op Z (fd .head Z Z Z Z (by omega) ?_)
  rw [show 0 + k * 3 + 0 = 0 + k * 3 + 0 from rfl, nn (j := 0) (s' := FK.s1) (wd hlt) (by omega) rfl, tL hlt]
  refine L.nil (al (At.then (At.region ?_)))
  refine L.pure Z (aO (r := ((k + 1 : Nat) : Int)) Z Z (by rw [cT (by omega)]; omega)) ?_
  refine L.mv Z Z (L.nil ?_)
  exact At.round (k + 1) hlt (by omega) ⟨rfl, rfl, rfl, rfl, rfl, trivial⟩ (Ent.refl _)
 ·
  have hke : k = fl.nodes.length := by omega
  subst hke
  have hst : fJ fl.nodes.length fl.nodes.length = (FK.Rn.begun fl).steps := by unfold fJ FK.Rn.begun; simp
  rw [hst]
  refine At.exit (au (ar (an (At.then (At.seq ?_)))))
  have hnl : (FK.Rn.begun fl).steps.length = fl.nodes.length := by unfold FK.Rn.begun; simp
  refine At.ent (l' := io rb ⟨gn, c, gs, fl.nodes.length, vs⟩ (FK.Rn.begun fl) :: ap e p { T with lastRun := T.lastRun + 1 } :: blk b3 29 #[.int .i64 fl.deadline, .slice (some ⟨gn, 0, none⟩) fl.nodes.length c] :: fr) ?_ ?_
  · refine Ent.trans ?_ (Ent.all (m := lD rb ⟨gn, c, gs, fl.nodes.length, vs⟩ (FK.Rn.begun fl)))
    unfold lD RA.sv RA.nv tg tf RA.sv RA.nv
    rw [hnl]
    refine (bX (.tail .head) (.tail (.tail (.tail .head))) (.tail (.tail (.tail .head)))).trans ?_
    exact Ent.pure hvs
  refine Dr.start Z (dP 0 Z Z (ag Z) (dP 1 Z Z (aq Z) (dP 2 Z Z (ab (off := 1) Z Z) ?_)))
  refine dL 3 Z Z (aa Z Z) (aQ fun _ _ _ => rfl) ?_
  refine dP 4 Z Z (ag Z) (dP 5 Z Z (aq Z) (dP 6 Z Z (ab (off := 7) Z Z) ?_))
  refine dL 7 Z Z (aa Z Z) (aQ fun _ _ _ => rfl) ?_
  refine dP 8 Z Z (ag Z) ?_
  refine dR 9 Z Z (zb (id := T.lastRun + 1) (b := rb) (a := ⟨gn, c, gs, fl.nodes.length, vs⟩) (R := FK.Rn.begun fl) Z Z dD Z Z Z (fun r hr => by have := hidT r hr; omega) ?_)
  refine Dr.kept [false, false] (by kernel_rfl) Kept.nil ?_
  refine dE (At.then (At.seq ?_))
  obtain ⟨p', hp'⟩ : ∃ p', p' = p.add (T.lastRun + 1) rb ⟨gn, c, gs, fl.nodes.length, vs⟩ := ⟨_, rfl⟩
  rw [← hp']
  refine At.ent (l' := ap e p' (T.begin fl) :: blk b3 29 #[.int .i64 fl.deadline, .slice (some ⟨gn, 0, none⟩) fl.nodes.length c] :: fr) (Ent.refl _) ?_
  have hB1 : (T.begin fl).now = S.now := k1
  have hB2 : (T.begin fl).sets = S.sets := k4
  have hB3 : (T.begin fl).tms = S.tms := k3
  refine Dr.start Z (dP 0 Z Z (ag Z) (dP 1 Z Z (aq Z) (dP 2 Z Z (ab (off := 6) Z Z) ?_)))
  refine dL 3 Z Z (aa Z Z) (aQ fun _ _ _ => rfl) ?_
  refine dP 4 Z Z (ag Z) (dP 5 Z Z (aq Z) (dP 6 Z Z (ab (off := 7) Z Z) ?_))
  refine dL 7 Z Z (aa Z Z) (aQ fun _ _ _ => rfl) ?_
  refine dP 8 Z Z (bg (cs := #[.int .u64 ((T.lastRun + 1 : Nat) : Int), .int .i64 (-1), .int .i64 0]) Z Z Z Z Z) (dP 9 Z Z (ag Z) (dP 10 Z Z (ab (off := 0) Z Z) (dL 11 Z Z (aa Z Z) (ae Z) ?_)))
  refine dR 12 Z Z (ah Z Z Z hE (jc (S := T.begin fl) fl.deadline (by omega) hd0 hd) (Ent.refl _) ?_)
  rintro v m ⟨rfl, rfl⟩
  refine ai ?_
  refine Dr.kept [false, true, true] (by kernel_rfl) (Kept.cons (aQ fun _ _ _ => rfl) (Kept.cons (aQ fun _ _ _ => rfl) Kept.nil)) ?_
  refine dR 13 Z Z (ah Z Z Z hE (mQ (S := T.begin fl) ⟨T.lastRun + 1, -1, 0⟩ ((T.begin fl).later fl.deadline.toNat) (hlat _ _ (by omega)) (hlat2 _ _) (by omega) (by rw [hB3]; omega)) (Ent.refl _) ?_)
  rintro v m ⟨rfl, rfl⟩
  refine ai ?_
  refine Dr.kept [true, false] (by kernel_rfl) (Kept.cons (aQ (S := (T.begin fl).setT ⟨T.lastRun + 1, -1, 0⟩ ((T.begin fl).later fl.deadline.toNat)) fun _ _ _ => rfl) Kept.nil) ?_
  refine dE (At.then (At.seq ?_))
  obtain ⟨U, hU⟩ : ∃ U, U = (T.begin fl).setT ⟨T.lastRun + 1, -1, 0⟩ ((T.begin fl).later fl.deadline.toNat) := ⟨_, rfl⟩
  rw [← hU]
  have hU1 : U.getR (T.lastRun + 1) = some (FK.Rn.begun fl) := by rw [hU]; exact FK.oa hidT
  have hU2 : U.lastRun = T.lastRun + 1 := by rw [hU]; rfl
  have hU3 : U.queue = S.queue := by rw [hU]; exact k5
  refine At.region (L.mv Z Z (L.mv Z Z (aN Z Z (aE 7 Z Z Z ?_))))
  refine L.val Z (aa (v := .int .u64 ((T.lastRun + 1 : Nat) : Int)) Z Z) (aQ (S := U) fun _ _ _ => by rw [← hU2]; rfl) ?_
  refine L.op Z (ah Z Z Z hE (oW (S := U) hU1 hnl hfit hn2 (by rw [hU3]; exact hq)) (Ent.refl _) ?_)
  rintro v m ⟨rfl, rfl⟩
  refine ai (L.nil (At.then (At.seq ?_)))
  obtain ⟨ws1, ws2, ws3, ws4, ws5, ws6, ws7, ws8⟩ := FK.oV U (T.lastRun + 1)
  obtain ⟨V, hV⟩ : ∃ V, V = U.wake (T.lastRun + 1) := ⟨_, rfl⟩
  rw [← hV] at ws7
  rw [← hV]
  refine At.region (L.mv Z Z (aN Z Z (aE 7 Z Z Z ?_)))
  refine L.val Z (aa (v := .int .u64 ((T.lastRun + 1 : Nat) : Int)) Z Z) (aQ (S := V) fun _ _ _ => by rw [← hU2, ← ws7]; rfl) ?_
  refine L.as Z Z (L.nil (At.then (At.ret ?_)))
  have hfin : V = T.submit fl := by rw [hV, hU]; rfl
  exact aA [ap e p' V] rfl Z ⟨T, p', hT, by rw [k6], by rw [hfin]⟩ (Ent.cons Ent.drop)
end Go.Proofs.YtmeegfamopaljaaGreatDoor

namespace Go.SL
open Go Go.RowKit
class SelC (p : HP) (l : List HP) (r : outParam (List HP)) : Prop where
 sel : Sel p l r
instance SelC.head {p : HP} {l : List HP} : SelC p (p :: l) l := ⟨.head⟩
instance (priority := low) SelC.tail {p q : HP} {l r : List HP} [h : SelC p l r] : SelC p (q :: l) (q :: r) := ⟨.tail h.sel⟩
class EntC (l m : List HP) : Prop where
 ent : Ent l m
instance (priority := high) EntC.refl {l : List HP} : EntC l l := ⟨Ent.refl l⟩
instance EntC.cons {p : HP} {l r m : List HP} [s : SelC p l r] [h : EntC r m] : EntC l (p :: m) := ⟨(Ent.sel s.sel).trans (Ent.cons h.ent)⟩
instance (priority := low) EntC.drop {x : HP} {l m : List HP} [h : EntC l m] : EntC (x :: l) m := ⟨Ent.drop.trans h.ent⟩
theorem ao {l m : List HP} [h : EntC l m] : Ent l m := h.ent
class HasVal (v : Value) (l : List HP) (e : outParam TypeId) (size m : outParam Nat) (xs : outParam (List Value)) (r : outParam (List HP)) : Prop where
 sel : Sel (row e size v m xs) l r
instance HasVal.head {v : Value} {e : TypeId} {size m : Nat} {xs : List Value} {l : List HP} : HasVal v (row e size v m xs :: l) e size m xs l := ⟨.head⟩
instance (priority := low) HasVal.tail {v : Value} {e : TypeId} {size m : Nat} {xs : List Value} {l r : List HP} {p : HP} [h : HasVal v l e size m xs r] : HasVal v (p :: l) e size m xs (p :: r) := ⟨.tail h.sel⟩
theorem ax {E : Env} {n : Nat} {D : List Deferred} {ts : List (Nat × Value)} {l r : List HP} {K : Act → World → Prop} (b : Nat) {tb : TypeId} {cs : Array Value} (cs' : Array Value) [H : Has b l (.cells cs tb) r] (h : cs = cs') (hk : At E n D ts (blk b tb cs' :: r) K) : At E n D ts l K := by
 subst h
 exact At.ent (Ent.sel H.sel) hk
end Go.SL

namespace Go.Proofs.YtmeegfamopaljaaGreatDoor
open Go Go.RowKit Go.SL
variable {G : Env → Prop}
abbrev cB (run : Nat) (st : Int) (v2 v3 : Value) : List Value := [.int .u64 run, .int .i64 st, v2, v3]
set_option maxRecDepth 10000 in
set_option maxHeartbeats 1000000 in
theorem sy {e : Nat} {p : EA} {S : FK.En} {id : Nat} {R : FK.Rn} (hR : S.getR id = some R) (hn : R.steps.length ≤ 100) : Does Tryz.prog G 105 [aL e, bc id].toArray [ap e p S] fun v m => ∃ v2 v3, v = .tuple #[.agg (cB id R.state v2 v3).toArray, .bool true] ∧ m = [ap e p S, bh v2 (R.steps.map (·.state)), bh v3 (R.steps.map (·.tries))] := by
 refine Does.body Tryz.func105 Z Z fun E fr hE => ?_
 refine ai (At.seq (At.region (L.op Z (aH (z := .agg #[.int .u64 0, .int .i64 0, .slice none 0 0, .slice none 0 0]) Z Z fun b4 => (L.as Z Z (L.nil (At.then (At.seq (At.region (L.mv Z Z (aN Z Z (aE 1 Z Z Z ?_))))))))))))
 refine L.val Z (aa (v := .map (some p.rm)) Z Z) (aQ fun _ _ _ => rfl) ?_
 refine L.mv Z Z (L.val Z (iR (m := dw S p) Z dD Z Z (eS hR)) cS (L.mv Z Z (L.ex Z Z Z (L.ex Z Z Z (L.as Z Z (L.as Z Z (L.nil (At.then (At.seq (At.seq (At.region (L.mv Z Z (L.pure Z (ck Z Z) (L.nil (At.then (aj Z (At.skip (At.then (At.seq ?_)))))))))))))))))))
 refine At.region (L.mv Z Z (L.mv Z Z (aN Z Z (aE 2 Z Z Z (L.val Z (aa (v := .int .i64 R.state) Z Z) (bN hR Z) (L.pure Z (bg (cs := (cB id R.state (.slice none 0 0) (.slice none 0 0)).toArray) Z Z Z Z Z) ?_))))))
 refine L.op Z (aG (vs := cB id R.state (.slice none 0 0) (.slice none 0 0)) Z (m := 4) Z Z Z Z (by simp [Value.oneCell']) (by show 0 + 4 ≤ 4; omega) ?_)
 refine L.nil (At.then (At.seq (At.seq (At.region (L.mv Z Z (aN Z Z (aE 3 Z Z Z (L.val Z (aa (v := (p.ra id).sv R) Z Z) (bN hR Z) (L.pure Z (aP Z Z) (L.mv Z Z (L.nil (At.then (At.block ?_)))))))))))))
 refine aT (X := Nat × Value × Value) (fun x => [(32, .int .i64 x.1), (31, .int .i64 R.steps.length), (30, (p.ra id).sv R), (4, aL b4), (6, aL (p.fb id))]) (fun x => blk b4 62 (cB id R.state x.2.1 x.2.2).toArray :: row 3 1 x.2.1 x.1 (cI ((R.steps.take x.1).map (·.state))) :: row 3 1 x.2.2 x.1 (cI ((R.steps.take x.1).map (·.tries))) :: ap e p S :: fr) (fun x => x.1 ≤ R.steps.length) (fun x => R.steps.length - x.1) (0, .slice none 0 0, .slice none 0 0) (Nat.zero_le _) ⟨rfl, rfl, rfl, rfl, rfl, trivial⟩ (Ent.cons (Ent.row0.trans (Ent.cons Ent.row0))) ?_
 rintro ⟨k, v2, v3⟩ hk
 replace hk : k ≤ R.steps.length := hk
 refine At.ent (l' := blk b4 62 (cB id R.state v2 v3).toArray :: row 3 1 v2 k (cI ((R.steps.take k).map (·.state))) :: row 3 1 v3 k (cI ((R.steps.take k).map (·.tries))) :: ap e p S :: fr) (Ent.refl _) ?_
 refine At.seq (At.region (L.pure Z (bf Z Z Z) (L.nil (At.then (At.seq ?_)))))
 refine aC Z (fun c33 => ?_) (fun c33 => ?_)
 ·
  have hlt : k < R.steps.length := by have : (k : Int) < (R.steps.length : Int) := c33; omega
  obtain ⟨s, hs⟩ : ∃ s, R.steps[k]? = some s := ⟨R.steps[k], by simp [hlt]⟩
  have ht1 : cI ((R.steps.take k).map (·.state)) ++ [.int .i64 s.state] = cI ((R.steps.take (k + 1)).map (·.state)) := by rw [List.take_add_one, hs]; simp [cI]
  have ht2 : cI ((R.steps.take k).map (·.tries)) ++ [.int .i64 s.tries] = cI ((R.steps.take (k + 1)).map (·.tries)) := by rw [List.take_add_one, hs]; simp [cI]
  refine At.skip (At.then (At.seq (At.block (At.seq (At.region (L.pure Z (bD (z := 3) Z Z Z Z hlt) (L.val Z (am (vs := pN s) Z Z Z Z) (rp hR hs) (L.op Z (aH (z := .agg #[.int .i64 0, .int .i64 0, .int .u64 0]) Z Z fun b8 => ?_)))))))))
  refine L.op Z (aG (vs := pN s) Z (m := 3) Z Z Z Z (by simp [Value.oneCell']) (by show 0 + 3 ≤ 3; omega) ?_)
  refine At.ent (l' := blk b8 265 (pN s).toArray :: blk b4 62 (cB id R.state v2 v3).toArray :: row 3 1 v2 k (cI ((R.steps.take k).map (·.state))) :: row 3 1 v3 k (cI ((R.steps.take k).map (·.tries))) :: ap e p S :: fr) (Ent.refl _) ?_
  refine L.nil (At.then (Dr.start Z (dP 0 Z Z (ab (off := 2) Z Z) (dL 1 Z Z (aa Z Z) (ae Z) (dP 2 Z Z (ab (off := 0) Z Z) (dL 3 Z Z (aa Z Z) (ae Z) (dP 6 Z Z (ab (off := 3) Z Z) (dL 7 Z Z (aa Z Z) (ae Z) (dP 8 Z Z (ab (off := 1) Z Z) (dL 9 Z Z (aa Z Z) (ae Z) ?_))))))))))
  refine gz 4 10 Z Z Z Z (by kernel_rfl) (cK Z Z Z Z Z Z fun b40 => ?_) (cK Z Z Z Z Z Z fun b46 => ?_)
  ·
   refine Dr.kept [true, true, false, true] (by kernel_rfl) (Kept.cons (ae Z) (Kept.cons (ae Z) (Kept.cons (ae Z) Kept.nil))) ?_
   refine gz 5 10 rfl rfl rfl rfl (by kernel_rfl) (cj rfl rfl fy rfl (by omega) rfl rfl (HasVal.sel (v := v2)) (news := [.int .i64 s.state]) rfl (fun h => by cases h) (f6 (fun j u h => by simpa using h)) (by simp [Value.oneCell']) (by unfold maxLen; omega) (by omega) fun v41 hv41 => ?_) (cK rfl rfl rfl rfl rfl rfl fun b46 => ?_)
   ·
    refine aJ (HasVal.sel (v := v41)) ?_
    rintro A41 c41 rfl - - - - -
    refine Dr.kept [true, true, false] (by kernel_rfl) (Kept.cons (ae Z) (Kept.cons (ae Z) Kept.nil)) ?_
    refine dP 12 Z Z (ab (off := 2) Z Z) (dR 10 Z Z (cK Z Z Z Z Z Z fun b46 => ?_))
    refine Dr.kept [false, true] (by kernel_rfl) (Kept.cons (ae Z) Kept.nil) ?_
    refine dR 11 rfl rfl (cj rfl rfl fy rfl (by omega) rfl rfl (HasVal.sel (v := v3)) (news := [.int .i64 s.tries]) rfl (fun h => by cases h) (f6 (fun j u h => by simpa using h)) (by simp [Value.oneCell']) (by unfold maxLen; omega) (by omega) fun v47 hv47 => ?_)
    refine aJ (HasVal.sel (v := v47)) ?_
    rintro A47 c47 rfl - - - - -
    refine Dr.kept [false] (by kernel_rfl) Kept.nil ?_
    refine dR 13 Z Z (bC Z Z Z Z Z (by first | decide | simp | (simp; omega)) ?_)
    refine Dr.kept [] (by kernel_rfl) Kept.nil ?_
    refine dP 14 Z Z (ab (off := 3) Z Z) ?_
    refine dR 15 Z Z (bC Z Z Z Z Z (by first | decide | simp | (simp; omega)) ?_)
    refine Dr.kept [] (by kernel_rfl) Kept.nil ?_
    refine dE (al (At.then (ax b4 (cB id R.state (.slice A41 (k + 1) c41) (.slice A47 (k + 1) c47)).toArray Z (At.region ?_))))
    refine L.pure Z (aO (r := ((k + 1 : Nat) : Int)) Z Z (by rw [cT (by omega)]; omega)) ?_
    refine L.mv Z Z (L.nil ?_)
    exact At.round (k + 1, .slice A41 (k + 1) c41, .slice A47 (k + 1) c47) hlt (by show R.steps.length - (k + 1) < R.steps.length - k; omega) ⟨rfl, rfl, rfl, rfl, rfl, trivial⟩ (by rw [ht1, ht2]; exact ao)
   ·
    refine Dr.kept [false, true, true] (by kernel_rfl) (Kept.cons (ae Z) (Kept.cons (ae Z) Kept.nil)) ?_
    refine dR 5 rfl rfl (cj rfl rfl fy rfl (by omega) rfl rfl (HasVal.sel (v := v2)) (news := [.int .i64 s.state]) rfl (fun h => by cases h) (f6 (fun j u h => by simpa using h)) (by simp [Value.oneCell']) (by unfold maxLen; omega) (by omega) fun v41 hv41 => ?_)
    refine aJ (HasVal.sel (v := v41)) ?_
    rintro A41 c41 rfl - - - - -
    refine Dr.kept [true, false] (by kernel_rfl) (Kept.cons (ae Z) Kept.nil) ?_
    refine dP 12 Z Z (ab (off := 2) Z Z) ?_
    refine dR 11 rfl rfl (cj rfl rfl fy rfl (by omega) rfl rfl (HasVal.sel (v := v3)) (news := [.int .i64 s.tries]) rfl (fun h => by cases h) (f6 (fun j u h => by simpa using h)) (by simp [Value.oneCell']) (by unfold maxLen; omega) (by omega) fun v47 hv47 => ?_)
    refine aJ (HasVal.sel (v := v47)) ?_
    rintro A47 c47 rfl - - - - -
    refine Dr.kept [false] (by kernel_rfl) Kept.nil ?_
    refine dR 13 Z Z (bC Z Z Z Z Z (by first | decide | simp | (simp; omega)) ?_)
    refine Dr.kept [] (by kernel_rfl) Kept.nil ?_
    refine dP 14 Z Z (ab (off := 3) Z Z) ?_
    refine dR 15 Z Z (bC Z Z Z Z Z (by first | decide | simp | (simp; omega)) ?_)
    refine Dr.kept [] (by kernel_rfl) Kept.nil ?_
    refine dE (al (At.then (ax b4 (cB id R.state (.slice A41 (k + 1) c41) (.slice A47 (k + 1) c47)).toArray Z (At.region ?_))))
    refine L.pure Z (aO (r := ((k + 1 : Nat) : Int)) Z Z (by rw [cT (by omega)]; omega)) ?_
    refine L.mv Z Z (L.nil ?_)
    exact At.round (k + 1, .slice A41 (k + 1) c41, .slice A47 (k + 1) c47) hlt (by show R.steps.length - (k + 1) < R.steps.length - k; omega) ⟨rfl, rfl, rfl, rfl, rfl, trivial⟩ (by rw [ht1, ht2]; exact ao)
  ·
   refine Dr.kept [false, true, true, true] (by kernel_rfl) (Kept.cons (ae Z) (Kept.cons (ae Z) (Kept.cons (ae Z) Kept.nil))) ?_
   refine dR 4 Z Z (cK Z Z Z Z Z Z fun b40 => ?_)
   refine Dr.kept [true, false, true] (by kernel_rfl) (Kept.cons (ae Z) (Kept.cons (ae Z) Kept.nil)) ?_
   refine dR 5 rfl rfl (cj rfl rfl fy rfl (by omega) rfl rfl (HasVal.sel (v := v2)) (news := [.int .i64 s.state]) rfl (fun h => by cases h) (f6 (fun j u h => by simpa using h)) (by simp [Value.oneCell']) (by unfold maxLen; omega) (by omega) fun v41 hv41 => ?_)
   refine aJ (HasVal.sel (v := v41)) ?_
   rintro A41 c41 rfl - - - - -
   refine Dr.kept [true, false] (by kernel_rfl) (Kept.cons (ae Z) Kept.nil) ?_
   refine dP 12 Z Z (ab (off := 2) Z Z) ?_
   refine dR 11 rfl rfl (cj rfl rfl fy rfl (by omega) rfl rfl (HasVal.sel (v := v3)) (news := [.int .i64 s.tries]) rfl (fun h => by cases h) (f6 (fun j u h => by simpa using h)) (by simp [Value.oneCell']) (by unfold maxLen; omega) (by omega) fun v47 hv47 => ?_)
   refine aJ (HasVal.sel (v := v47)) ?_
   rintro A47 c47 rfl - - - - -
   refine Dr.kept [false] (by kernel_rfl) Kept.nil ?_
   refine dR 13 Z Z (bC Z Z Z Z Z (by first | decide | simp | (simp; omega)) ?_)
   refine Dr.kept [] (by kernel_rfl) Kept.nil ?_
   refine dP 14 Z Z (ab (off := 3) Z Z) ?_
   refine dR 15 Z Z (bC Z Z Z Z Z (by first | decide | simp | (simp; omega)) ?_)
   refine Dr.kept [] (by kernel_rfl) Kept.nil ?_
   refine dE (al (At.then (ax b4 (cB id R.state (.slice A41 (k + 1) c41) (.slice A47 (k + 1) c47)).toArray Z (At.region ?_))))
   refine L.pure Z (aO (r := ((k + 1 : Nat) : Int)) Z Z (by rw [cT (by omega)]; omega)) ?_
   refine L.mv Z Z (L.nil ?_)
   exact At.round (k + 1, .slice A41 (k + 1) c41, .slice A47 (k + 1) c47) hlt (by show R.steps.length - (k + 1) < R.steps.length - k; omega) ⟨rfl, rfl, rfl, rfl, rfl, trivial⟩ (by rw [ht1, ht2]; exact ao)
 ·
  have hke : k = R.steps.length := by have : ¬ (k : Int) < (R.steps.length : Int) := c33; omega
  refine At.exit (au (ar (an (At.then (At.seq (aJ (HasVal.sel (v := v2)) ?_))))))
  rintro A2 c2 rfl - - - - -
  refine aJ (HasVal.sel (v := v3)) ?_
  rintro A3 c3 rfl - - - - -
  refine At.region (L.val Z (am (vs := cB id R.state (.slice A2 k c2) (.slice A3 k c3)) Z Z Z Z) (av Z) ?_)
  refine L.op Z (aG (vs := cB id R.state (.slice A2 k c2) (.slice A3 k c3)) Z (m := 4) Z Z Z Z (by simp [Value.oneCell']) (by show 0 + 4 ≤ 4; omega) ?_)
  refine L.as Z Z (L.nil (At.then (At.ret ?_)))
  refine eW [ap e p S, bh (.slice A2 k c2) (R.steps.map (·.state)), bh (.slice A3 k c3) (R.steps.map (·.tries))] rfl (bU (vs := cB id R.state (.slice A2 k c2) (.slice A3 k c3)) Z Z Z Z (av Z)) (Res.tmp Z) ⟨_, _, rfl, rfl⟩ ?_
  rw [List.take_of_length_le (by omega)]
  show Ent _ (ap e p S :: row 3 1 _ (R.steps.map (·.state)).length _ :: row 3 1 _ (R.steps.map (·.tries)).length _ :: fr)
  rw [List.length_map, List.length_map, ← hke]
  exact ao
end Go.Proofs.YtmeegfamopaljaaGreatDoor

namespace Go.Proofs.YtmeegfamopaljaaGreatDoor
open Go Go.RowKit Go.SL
variable {G : Env → Prop}
end Go.Proofs.YtmeegfamopaljaaGreatDoor

namespace Go.Proofs.YtmeegfamopaljaaGreatDoor
open Go Go.RowKit Go.SL
variable {G : Env → Prop}
set_option maxRecDepth 10000 in
theorem ot {Y : List HP} (xs : List Int) (A : Option Addr) (c : Nat) (F : FuncId) (cap : Array Value) (f : Int → Bool) (hlen : xs.length ≤ 9223372036854775807) (hA : xs ≠ [] → ∃ g, A = some ⟨g, 0, none⟩ ∧ ∀ E w r, Holds E w (Y ++ r) → ∀ j x, xs[j]? = some x → bI ⟨g, 0 + j * 1, none⟩ (.int .i64 x) w) (hF : eA Tryz.prog F = true) (hf : ∀ x ∈ xs, Does Tryz.prog G F (#[.int .i64 x] ++ cap) Y fun v m => v = .bool (f x) ∧ m = Y) :
 Does Tryz.prog G 281 [.slice A xs.length c, .func (.func F) #[] cap].toArray Y fun u m => (∃ i : Int, u = .int .i64 i ∧ (0 ≤ i ↔ xs.any f = true)) ∧ m = Y := by
 refine Does.body Tryz.func281 Z Z fun E fr hE => ?_
 refine At.seq (At.region (L.as Z Z (L.nil (At.then (At.seq (At.seq (At.region (L.mv Z Z (L.pure Z (aP Z Z) (L.mv Z Z (L.nil (At.then (At.block ?_)))))))))))))
 refine aT (X := Nat) (fun k => [(8, .int .i64 k), (7, .int .i64 xs.length), (0, .slice A xs.length c), (1, .func (.func F) #[] cap)]) (fun _ => Y ++ fr) (fun k => k ≤ xs.length ∧ (xs.take k).any f = false) (fun k => xs.length - k) 0 ⟨Nat.zero_le _, rfl⟩ ⟨rfl, rfl, rfl, rfl, trivial⟩ (Ent.refl _) ?_
 rintro k ⟨hk, hno⟩
 refine At.seq (At.region (L.pure Z (bf Z Z Z) (L.nil (At.then (At.seq ?_)))))
 refine aC Z (fun c9 => ?_) (fun c9 => ?_)
 ·
  have hlt : k < xs.length := by omega
  obtain ⟨g, rfl, hcell⟩ := hA (by intro h; rw [h] at hlt; simp at hlt)
  obtain ⟨x, hx⟩ : ∃ x, xs[k]? = some x := ⟨xs[k], by simp [hlt]⟩
  have htk : xs.take (k + 1) = xs.take k ++ [x] := by rw [List.take_add_one, hx]; rfl
  refine At.skip (At.then (At.seq (At.block (At.seq (At.region (L.mv Z Z (L.as Z Z (L.nil (At.then (At.seq (At.region (L.mv Z Z (L.mv Z Z (L.mv Z Z (L.pure Z (bD (z := 1) Z Z Z Z hlt) ?_)))))))))))))))
  refine L.val Z (aa (v := .int .i64 x) Z Z) (fun w hw => hcell _ _ _ hw k x hx) ?_
  refine L.op Z (jO Z Z hF Z hE (hf x (List.mem_of_getElem? hx)) (Ent.refl _) ?_)
  rintro v m ⟨rfl, hm⟩
  rw [hm]
  refine L.nil (At.then ?_)
  refine eD Z (fun c16 => ?_) (fun c16 => ?_)
  ·
   refine At.seq (At.region (L.mv Z Z (L.as Z Z (L.nil (At.then (At.ret (aB (aI (bT (aB (aI ?_)))))))))))
   exact aA Y Z Z ⟨⟨_, rfl, by
    have : xs.any f = true := List.any_eq_true.2 ⟨x, List.mem_of_getElem? hx, c16⟩
    simp [this]⟩, rfl⟩ (Ent.refl _)
  ·
   refine At.skip (al (At.then (At.region ?_)))
   refine L.pure Z (aO (r := ((k + 1 : Nat) : Int)) Z Z (by rw [cT (by omega)]; omega)) ?_
   refine L.mv Z Z (L.nil ?_)
   exact At.round (k + 1) ⟨hlt, by rw [htk, List.any_append, hno]; simp [c16]⟩ (by omega) ⟨rfl, rfl, rfl, rfl, trivial⟩ (Ent.refl _)
 ·
  have hke : k = xs.length := by omega
  rw [hke, List.take_length] at hno
  refine At.exit (au (ar (an (At.then (At.seq (At.region (L.as Z Z (L.nil (At.then (At.ret ?_))))))))))
  exact aA Y Z Z ⟨⟨_, rfl, by simp [hno]⟩, rfl⟩ (Ent.refl _)
set_option maxRecDepth 10000 in
theorem lw {Y : List HP} (xs : List Int) (A : Option Addr) (c : Nat) (F : FuncId) (cap : Array Value) (f : Int → Bool) (hlen : xs.length ≤ 9223372036854775807) (hA : xs ≠ [] → ∃ g, A = some ⟨g, 0, none⟩ ∧ ∀ E w r, Holds E w (Y ++ r) → ∀ j x, xs[j]? = some x → bI ⟨g, 0 + j * 1, none⟩ (.int .i64 x) w) (hF : eA Tryz.prog F = true) (hf : ∀ x ∈ xs, Does Tryz.prog G F (#[.int .i64 x] ++ cap) Y fun v m => v = .bool (f x) ∧ m = Y) :
 Does Tryz.prog G 256 [.slice A xs.length c, .func (.func F) #[] cap].toArray Y fun u m => u = .bool (xs.any f) ∧ m = Y := by
 refine Does.body Tryz.func256 Z Z fun E fr hE => ?_
 refine At.seq (At.region (L.as Z Z (L.nil (At.then (At.seq (At.region (L.mv Z Z (L.mv Z Z (L.op Z (ah Z Z Z hE (ot xs A c F cap f hlen hA hF hf) (Ent.refl _) ?_))))))))))
 rintro v m ⟨⟨i, rfl, hi⟩, hm⟩
 rw [hm]
 refine L.pure Z (nb Z Z Z) (L.as Z Z (L.nil (At.then (At.ret ?_))))
 have hd : decide ((0 : Int) ≤ i) = xs.any f := by
  cases hx : xs.any f with
  | true => exact decide_eq_true (hi.2 hx)
  | false => exact decide_eq_false (fun h => by rw [hi.1 h] at hx; cases hx)
 exact aA Y Z Z ⟨by rw [hd], rfl⟩ (Ent.refl _)
theorem Ent.under {n : Nat} {a b : List HP} (h : Ent a b) : Ent (a.map (SL.under n)) (b.map (SL.under n)) := fun w _ s => (Star.under (h w _ (jg s)) fun _ hk => hk.2).mono fun _ hk => hk.1
theorem xK {n g c m size : Nat} {t : TypeId} {xs : List Value} {r : List HP} : Ent (SL.under n (row t size (.slice (some ⟨g, 0, none⟩) m c) m xs) :: r) (HP.pure (g < n) :: row t size (.slice (some ⟨g, 0, none⟩) m c) m xs :: r) := fun w F ⟨F1, F2, h1, h2, hd, hp, hl⟩ =>
 Ent.pure (hp.2 g rfl).2 w F ⟨F1, F2, h1, h2, hd, (row t size (.slice (some ⟨g, 0, none⟩) m c) m xs).loc (fun _ h => h.1) (fun _ _ => rfl) hp, hl⟩
theorem xL {n g c m size : Nat} {t : TypeId} {xs : List Value} {r : List HP} (hg : g < n) : Ent (row t size (.slice (some ⟨g, 0, none⟩) m c) m xs :: r) (SL.under n (row t size (.slice (some ⟨g, 0, none⟩) m c) m xs) :: r) := fun _ _ ⟨F1, F2, h1, h2, hd, hp, hl⟩ =>
 ⟨F1, F2, h1, h2, hd, ⟨hp.1, fun k hk => ⟨hp.2 k hk, by injection hk with hk; subst hk; exact hg⟩⟩, hl⟩
theorem zY {n b : Nat} {o : Obj} {r : List HP} : Ent (SL.under n (ob b o) :: r) (HP.pure (b < n) :: ob b o :: r) := fun w F ⟨F1, F2, h1, h2, hd, hp, hl⟩ =>
 Ent.pure hp.1.2 w F ⟨F1, F2, h1, h2, hd, ⟨hp.1.1, hp.2⟩, hl⟩
theorem nK {n b : Nat} {o : Obj} {r : List HP} (hb : b < n) : Ent (ob b o :: r) (SL.under n (ob b o) :: r) := fun _ _ ⟨F1, F2, h1, h2, hd, hp, hl⟩ =>
 ⟨F1, F2, h1, h2, hd, ⟨⟨hp.1, hb⟩, hp.2⟩, hl⟩
section
variable {P : Program} {E : Env} {n : Nat} {D : List Deferred} {ts : List (Nat × Value)} {l r : List HP} {Q : Exit → Act → World → Prop} {ty : TypeId} {pos : String} {af : Array Edge} {g : Option (Nat × Bool)} {t : TypeId} {x y : Operand} {e : Nat} {p : EA} {S : FK.En} {K : Act → World → Prop}
theorem wJ {h id k j o : Nat} {R : FK.Rn} {s s' : FK.Sp} {v : Value} (H : Sel (SL.under h (ap e p S)) l r) (hR : S.getR id = some R) (hs : R.steps[k]? = some s) (hz : bZ P t 1) (hx : ev ts x = some (.pointer (some ⟨(p.ra id).gs, o, none⟩))) (hy : ev ts y = some v) (ho : o = 0 + k * 3 + j) (hj : j < 3) (hv : v.oneCell' = true) (hset : (pN s).set j v = pN s')
 (hk : At E n D ts (SL.under h (ap e p (S.setR id (R.setS k s'))) :: r) K) : At E n D ts l (fun a w => (Oper.mk none (.store t x y) ty pos af g).wp P a w K Q) := by
 refine At.ent (Ent.sel H) ?_
 refine eC (p := cJ S) (fun w hw => kq hw) fun hn => ?_
 obtain ⟨a, b, hab, hset'⟩ := gY hR hn
 refine At.ent ((Ent.under (n := h) (il (e := e) (p := p) (r := []) hab)).append r) ?_
 rw [List.append_nil]
 have hkl := (List.getElem?_eq_some_iff.1 hs).1
 have hl : (R.setS k s').steps.length = R.steps.length := by simp [FK.Rn.setS]
 show At E n D ts (SL.under h (HP.pure ((p.ra id).vs.length = R.fl.nodes.length)) :: SL.under h (tg (p.fb id) (p.ra id) R) :: SL.under h (row 46 7 ((p.ra id).nv R) R.fl.nodes.length (bl R.fl.nodes (p.ra id).vs)) :: SL.under h (dJ (p.ra id).vs R.fl.nodes) :: SL.under h (row 265 3 ((p.ra id).sv R) R.steps.length (pM R.steps)) :: ((km e p S a b).map (SL.under h) ++ r)) _
 refine At.ent ((Ent.sel (.tail (.tail (.tail (.tail .head))))).trans xK) (At.pure .head fun hg => ?_)
 refine fd .head hz hx hy hv (by omega) ?_
 refine At.ent ?_ hk
 subst ho
 rw [nn hs hj hset]
 refine (xL hg).trans ?_
 refine ((bX (.tail .head) (.tail .head) (.tail .head)).trans (Ent.cons (Ent.cons (Ent.cons (Ent.sel (.tail .head)))))).trans ?_
 have hc := (Ent.under (n := h) (gA (e := e) (p := p) (r := []) hn (hset' (R.setS k s')))).append r
 rw [List.append_nil] at hc
 refine Ent.trans ?_ hc
 show Ent _ (SL.under h (HP.pure ((p.ra id).vs.length = R.fl.nodes.length)) :: SL.under h (blk (p.fb id) 263 #[.int .i64 R.fl.deadline, (p.ra id).nv R, .int .i64 R.state, .slice (some ⟨(p.ra id).gs, 0, none⟩) (R.setS k s').steps.length (p.ra id).cs, .int .u64 R.ended]) :: SL.under h (row 46 7 ((p.ra id).nv R) R.fl.nodes.length (bl R.fl.nodes (p.ra id).vs)) :: SL.under h (dJ (p.ra id).vs R.fl.nodes) :: SL.under h (row 265 3 (.slice (some ⟨(p.ra id).gs, 0, none⟩) (R.setS k s').steps.length (p.ra id).cs) (R.setS k s').steps.length (pM (R.steps.set k s'))) :: ((km e p S a b).map (SL.under h) ++ r))
 rw [hl]
 exact Ent.refl _
end
end Go.Proofs.YtmeegfamopaljaaGreatDoor

namespace FK
theorem yV {ns : List Node} {l : List Sp} {k : Nat} {s : Sp} {nd : Node} (hs : l[k]? = some s) (hn : ns[k]? = some nd) : bS ns l k = if s.state = 1 ∧ (nd.after.any fun u => bR l u.toNat 6 || bR l u.toNat 7) then l.set k { s with state := 7 } else l := by
 unfold bS
 rw [hs, hn]
end FK
namespace Go.Proofs.YtmeegfamopaljaaGreatDoor
open Go Go.RowKit Go.SL
variable {G : Env → Prop}
abbrev eN (c : Nat) (v : Value) : HP := blk c 260 #[v]
theorem Au {S : FK.En} {id : Nat} {R : FK.Rn} (hR : S.getR id = some R) (hn : cJ S) : S.setR id R = S := by
 obtain ⟨a, b, h1, h2⟩ := gY hR hn
 have h3 : (S.setR id R).runs = S.runs := by rw [h2, h1]
 have h4 : S.setR id R = { S with runs := (S.setR id R).runs } := rfl
 rw [h4, h3]
set_option maxRecDepth 10000 in
theorem qR {e : Nat} {p : EA} {S : FK.En} {id u h c : Nat} {R : FK.Rn} {s : FK.Sp} (hR : S.getR id = some R) (hs : R.steps[u]? = some s) : Does Tryz.prog G 257 [.int .i64 u, aL c].toArray [SL.under h (ap e p S), eN c (aL (p.fb id))] fun v m => v = .bool (decide (s.state ∈ [6, 7])) ∧ m = [SL.under h (ap e p S), eN c (aL (p.fb id))] := by
 refine Does.body Tryz.func257 Z Z fun E fr hE => ?_
 refine aF (At.seq (At.region (L.as Z Z (L.nil (At.then (At.seq (At.region (aX Z Z Z Z (L.mv Z Z (L.op Z (rz Z Z Z Z Z Z Z Z fun b6 => ?_)))))))))))
 refine L.op Z (ah Z Z Z hE (nx [6, 7] (some ⟨b6, 0, none⟩) 2 hR hs) ((aK (.tail (.head)) .head).trans (Ent.cons (el (xs := [6, 7]) (show 2 ≤ 9223372036854775807 by omega)))) ?_)
 rintro v m ⟨rfl, rfl⟩
 refine ai (L.as Z Z (L.nil (At.then (At.ret ?_))))
 exact aA [_, _] rfl Z ⟨rfl, rfl⟩ (Ent.refl _)
set_option maxRecDepth 10000 in
set_option maxHeartbeats 1000000 in
theorem sU {e : Nat} {p : EA} {S : FK.En} {id k h c : Nat} {R : FK.Rn} (hR : S.getR id = some R) (hlen : R.steps.length = R.fl.nodes.length) (hfit : vT R.fl) (_hn : R.fl.nodes.length ≤ 100) (hk : k < R.fl.nodes.length) :
 Does Tryz.prog G 255 (#[.int .i64 k] ++ #[aL c]) [SL.under h (ap e p S), SL.under h (eN c (aL (p.fb id)))] fun v m => v = .tuple #[] ∧ m = [SL.under h (ap e p (S.setR id { R with steps := FK.bS R.fl.nodes R.steps k })), SL.under h (eN c (aL (p.fb id)))] := by
 obtain ⟨s, hs⟩ : ∃ s, R.steps[k]? = some s := ⟨R.steps[k]'(by omega), by simp⟩
 obtain ⟨nd, db⟩ : ∃ nd, R.fl.nodes[k]? = some nd := ⟨R.fl.nodes[k], by simp [hk]⟩
 have hkl := (List.getElem?_eq_some_iff.1 hs).1
 have hsk := FK.yV hs db
 refine Does.body Tryz.func255 Z Z fun E fr hE => ?_
 refine aF (At.ent ((Ent.sel (.tail .head)).trans zY) (At.pure .head fun hch => ?_))
 refine eC (p := cJ S) (fun w hw => kq hw) fun hok => ?_
 have hsame : S.setR id R = S := Au hR hok
 refine eC (fun w hw => jB hR db hw) fun hA => ?_
 obtain ⟨A, ca, hu, hA1, hA2, hA3, hA4⟩ := hA
 replace hA4 : ca ≤ 9223372036854775807 := hA4
 have hcf : ∀ x ∈ nd.after, Does Tryz.prog G 257 (#[.int .i64 x] ++ #[aL c]) [SL.under h (ap e p S), eN c (aL (p.fb id))] fun v m => v = .bool (FK.bR R.steps x.toNat 6 || FK.bR R.steps x.toNat 7) ∧ m = [SL.under h (ap e p S), eN c (aL (p.fb id))] := fun x hx => by
  obtain ⟨hx0, hxn⟩ := hfit nd (List.mem_of_getElem? db) x hx
  obtain ⟨u, rfl⟩ : ∃ u : Nat, x = (u : Int) := ⟨x.toNat, by omega⟩
  obtain ⟨s2, hs2⟩ : ∃ s2, R.steps[u]? = some s2 := ⟨R.steps[u]'(by omega), by simp⟩
  have hb : decide (s2.state ∈ ([6, 7] : List Int)) = (FK.bR R.steps (u : Int).toNat 6 || FK.bR R.steps (u : Int).toNat 7) := by
   rw [Int.toNat_natCast, FK.cR hs2, FK.cR hs2]
   by_cases h6 : s2.state = 6
   · simp [h6]
   · by_cases h7 : s2.state = 7 <;> simp [h6, h7]
  rw [← hb]
  exact qR hR hs2
 have hcl : nd.after ≠ [] → ∃ g, A = some ⟨g, 0, none⟩ ∧ ∀ E w r, Holds E w ([SL.under h (ap e p S), eN c (aL (p.fb id))] ++ r) → ∀ j x, nd.after[j]? = some x → bI ⟨g, 0 + j * 1, none⟩ (.int .i64 x) w := fun hne => by
  have hp := List.length_pos_iff.2 hne
  cases A with
  | none => have := (hA1 rfl).1; omega
  | some ad =>
   obtain ⟨g, rfl⟩ := hA2 ad rfl
   exact ⟨g, rfl, fun E w r hw j x hx => rY (l := SL.under h (ap e p S) :: eN c (aL (p.fb id)) :: r) hR db hu hx w hw⟩
 refine At.seq ?_
 by_cases HW : s.state = 1
 ·
  refine At.region (aX Z Z Z Z (L.mv Z Z (L.op Z (cK Z Z Z Z Z Z fun b5 => ?_))))
  refine L.op Z (ah Z Z Z hE (nx [1] (some ⟨b5, 0, none⟩) 1 hR hs) ((aK (.tail (.tail (.head))) .head).trans (Ent.cons (el (xs := [1]) (show 1 ≤ 9223372036854775807 by omega)))) ?_)
  rintro v m ⟨rfl, rfl⟩
  refine ai ?_
  rw [show decide (s.state ∈ ([1] : List Int)) = true by simp [HW]]
  refine L.mv Z Z (lA Z Z Z (aa Z Z) (ae Z) (lT Z Z Z (aq Z) (lT Z Z Z (ab (off := 0) Z Z) (lT Z Z Z (ab (off := 1) Z Z) (lA Z Z Z (aa (v := (p.ra id).nv R) Z Z) (bN hR Z) (lT Z Z Z (ag Z) (lT Z Z Z (bD (z := 7) Z Z Z Z hk) (lT Z Z Z (ab (off := 6) Z Z) ?_))))))))
  refine lA Z Z Z (aa (v := .slice A nd.after.length ca) Z Z) (fun w hw => de hR db hu w hw 6 _ Z) ?_
  refine lT Z Z Z (ea Z Z) ?_
  refine L.on Z Z Z (ah Z Z Z hE (lw nd.after A ca 257 #[aL c] (fun x => FK.bR R.steps x.toNat 6 || FK.bR R.steps x.toNat 7) (by omega) hcl Z hcf) (Ent.refl _) ?_)
  rintro v m ⟨rfl, rfl⟩
  refine aF (L.pure Z (aM Z Z Z) (L.nil (At.then ?_)))
  refine eD Z (fun c19 => ?_) (fun c19 => ?_)
  ·
   refine At.region (aX Z Z Z Z (aN Z Z (aE 3 Z Z Z (L.val Z (aa (v := (p.ra id).sv R) Z Z) (bN hR Z) (L.mv Z Z (L.pure Z (bD (z := 3) Z Z Z Z hkl) (aE 0 Z Z Z ?_)))))))
   refine L.op Z (wJ (j := 0) (s' := { s with state := 7 }) .head hR hs Z Z Z Z (by omega) Z Z ?_)
   refine L.nil ?_
   exact aZ [SL.under h (ap e p (S.setR id { R with steps := FK.bS R.fl.nodes R.steps k })), SL.under h (eN c (aL (p.fb id)))] rfl ⟨rfl, rfl⟩ (by
    rw [hsk, if_pos ⟨HW, c19⟩]
    exact Ent.cons (nK hch))
  ·
   refine At.skip ?_
   exact aZ [SL.under h (ap e p (S.setR id { R with steps := FK.bS R.fl.nodes R.steps k })), SL.under h (eN c (aL (p.fb id)))] rfl ⟨rfl, rfl⟩ (by
    rw [hsk, if_neg (fun h => by rw [h.2] at c19; cases c19), hsame]
    exact Ent.cons (nK hch))
 ·
  refine At.region (aX Z Z Z Z (L.mv Z Z (L.op Z (cK Z Z Z Z Z Z fun b5 => ?_))))
  refine L.op Z (ah Z Z Z hE (nx [1] (some ⟨b5, 0, none⟩) 1 hR hs) ((aK (.tail (.tail (.head))) .head).trans (Ent.cons (el (xs := [1]) (show 1 ≤ 9223372036854775807 by omega)))) ?_)
  rintro v m ⟨rfl, rfl⟩
  refine ai ?_
  rw [show decide (s.state ∈ ([1] : List Int)) = false by simp [HW]]
  refine L.mv Z Z (L.off Z Z Z Z Z Z (L.off Z Z Z Z Z Z (L.off Z Z Z Z Z Z (L.off Z Z Z Z Z Z (L.off Z Z Z Z Z Z (L.off Z Z Z Z Z Z (L.off Z Z Z Z Z Z (L.off Z Z Z Z Z Z (L.off Z Z Z Z Z Z (L.off Z Z Z Z Z Z (L.off Z Z Z Z Z Z (L.pure Z (aM Z Z Z) (L.nil (At.then (aj Z (At.skip ?_))))))))))))))))
  exact aZ [SL.under h (ap e p (S.setR id { R with steps := FK.bS R.fl.nodes R.steps k })), SL.under h (eN c (aL (p.fb id)))] rfl ⟨rfl, rfl⟩ (by
   rw [hsk, if_neg (fun h => HW h.1), hsame]
   exact Ent.cons (nK hch))
end Go.Proofs.YtmeegfamopaljaaGreatDoor

namespace Go.Proofs.YtmeegfamopaljaaGreatDoor
open Go Go.RowKit
def eO (ba ca ji k seed : Int) : Int := (if k ≤ 1 then ba else if k < 22 then min ca (ba * 2 ^ (k.toNat - 1)) else ca) + seed % (ji + 1)
theorem wH (n : Nat) (h : n ≤ 21) : (1 : Int) ≤ 2 ^ n ∧ (2 : Int) ^ n ≤ 2097152 := by
 have : ∀ n : Fin 22, (1 : Int) ≤ 2 ^ n.val ∧ (2 : Int) ^ n.val ≤ 2097152 := by decide
 exact this ⟨n, by omega⟩
theorem yI {ba : Int} {n : Nat} (h1 : 1 ≤ ba) (h2 : ba ≤ 1048576) (hn : n ≤ 21) : wrap64 (ba * 2 ^ n) = ba * 2 ^ n ∧ 1 ≤ ba * 2 ^ n ∧ ba * 2 ^ n ≤ 2199023255552 := by
 have ⟨p1, p2⟩ := wH n hn
 have l1 : 1 ≤ ba * 2 ^ n := by have := Int.mul_le_mul h1 p1 (by omega) (by omega); omega
 have l2 : ba * 2 ^ n ≤ 2199023255552 := by have := Int.mul_le_mul h2 p2 (by omega) (by omega); omega
 exact ⟨IntWalk.wrap64_in _ ⟨by omega, by omega⟩, l1, l2⟩
theorem kT {seed ji : Int} (h4 : 0 ≤ ji) (h5 : ji ≤ 1048576) : 0 ≤ seed % (ji + 1) ∧ seed % (ji + 1) ≤ 1048576 := by
 have h1 := Int.emod_nonneg seed (show ji + 1 ≠ 0 by omega)
 have h2 := Int.emod_lt_of_pos seed (show 0 < ji + 1 by omega)
 omega
set_option maxHeartbeats 400000 in
theorem mK (bu cl be ba ca ji : Int) (A : Option Addr) (n c : Nat) (k seed : Int) (w : World)
 (h1 : 1 ≤ ba) (h2 : ba ≤ ca) (h3 : ca ≤ 1048576) (h4 : 0 ≤ ji) (h5 : ji ≤ 1048576) (hs0 : 0 ≤ seed) (hs1 : seed < 18446744073709551616) :
 Calls Tryz.prog 136 #[.agg #[.int .i64 bu, .int .i64 cl, .int .i64 be, .int .i64 ba, .int .i64 ca, .int .i64 ji, .slice A n c], .int .i64 k, .int .u64 seed] w
  fun e w' => e = .returned (.int .i64 (eO ba ca ji k seed)) ∧ Below w.heap.size w w' := by
 have hm := kT (seed := seed) h4 h5
 have HW : Hid (wrap64 (seed % (ji + 1)) = seed % (ji + 1)) := IntWalk.wrap64_in _ ⟨by omega, by omega⟩
 by_cases hk1 : k ≤ 1
 · have HR : Hid (eO ba ca ji k seed = ba + seed % (ji + 1)) := by unfold eO; rw [if_pos hk1]; rfl
   clear hm
   go_enter Tryz.func136, Tryz.ntmps136
   go_wp2
   all_goals
    go_quiet (fail)
    go_wp2
    all_goals
     go_ret
     have hm := kT (seed := seed) h4 h5
     refine ⟨mR ?_, (by repeat (first | assumption | exact Below.refl _ _ | refine below_drewN ?_ _ | refine Below.drew ?_ | refine Below.alloc ?_ (by first | omega | (simp; done) | (simp; omega)) _ | refine Below.setCell ?_ (by first | omega | (simp; done) | (simp; omega)) _))⟩
     rw [HR.out, HW.out]
     rw [IntWalk.wrap64_in _ ⟨by omega, by omega⟩]
     try omega
 · by_cases hk2 : k < 22
   · have hp := yI (n := k.toNat - 1) h1 (by omega) (by omega)
     have HP := Lib.hid hp
     have HR : Hid (eO ba ca ji k seed = min ca (ba * 2 ^ (k.toNat - 1)) + seed % (ji + 1)) := by unfold eO; rw [if_neg hk1, if_pos hk2]; rfl
     clear hm hp
     go_enter Tryz.func136, Tryz.ntmps136
     go_wp2
     go_quiet (fail)
     go_wp2
     all_goals
      go_ret
      have hm := kT (seed := seed) h4 h5
      have hp := HP.out
      refine ⟨mR ?_, (by repeat (first | assumption | exact Below.refl _ _ | refine below_drewN ?_ _ | refine Below.drew ?_ | refine Below.alloc ?_ (by first | omega | (simp; done) | (simp; omega)) _ | refine Below.setCell ?_ (by first | omega | (simp; done) | (simp; omega)) _))⟩
      simp only [HR.out, HW.out, hp.1] at *
      rw [IntWalk.wrap64_in _ ⟨by omega, by omega⟩]
      try omega
   · have HR : Hid (eO ba ca ji k seed = ca + seed % (ji + 1)) := by unfold eO; rw [if_neg hk1, if_neg hk2]; rfl
     clear hm
     go_enter Tryz.func136, Tryz.ntmps136
     go_wp2
     go_ret
     have hm := kT (seed := seed) h4 h5
     refine ⟨mR ?_, (Below.refl _ _).alloc (Nat.le_refl _) _⟩
     rw [HR.out, HW.out]
     rw [IntWalk.wrap64_in _ ⟨by omega, by omega⟩]
end Go.Proofs.YtmeegfamopaljaaGreatDoor

namespace Go.Proofs.YtmeegfamopaljaaGreatDoor
open Go Go.RowKit Go.SL
variable {G : Env → Prop}
theorem OwnNodes.nodesAtB {B : Nat} {w : World} {base : Nat} {A : Option Addr} {c : Nat} {l : List FK.Node} {vs : List Value} (h : OwnNodes w base (.slice A l.length c) l vs)
 (hlt : ∀ g, (Value.slice A l.length c).ownBlock = some g → g < B) (hlts : ∀ (i : Nat) (u : Value), vs[i]? = some u → ∀ g, u.ownBlock = some g → g < B) (hr : ∀ n ∈ l, (i64 n.budget ∧ i64 n.close ∧ i64 n.beat ∧ i64 n.base ∧ i64 n.cap ∧ i64 n.jitter) ∧ ∀ x ∈ n.after, i64 x) : NodesAt w B A c l := by
 have hrow := h.row
 rcases hrow.2 with ⟨he, h0⟩ | ⟨g, cap, cur, he, hb, hg, h1, h2, _⟩
 · injection he with _ _ hc
   subst hc
   exact ⟨by omega, by omega, fun hl => by omega⟩
 · injection he with hA _ hc
   subst hA; subst hc
   refine ⟨h1, by unfold maxLen at h2; omega, fun hl => ⟨g, 0, rfl, hlt _ Z, fun i n hn => ?_⟩⟩
   obtain ⟨hi, _⟩ := List.getElem?_eq_some_iff.1 hn
   have hu : ∃ u, vs[i]? = some u := ⟨vs[i]'(by rw [h.len]; exact hi), by simp⟩
   obtain ⟨u, hu⟩ := hu
   have hint := h.ints i n u hn hu
   have hcell : ∀ j x, j < 7 → (aw n u)[j]? = some x → w.cell? ⟨g, 0 + i * 7 + j, none⟩ = some x := fun j x hj hx => by
    have := hrow.cells (g := g) rfl (i * 7 + j) x (by rw [iN l vs i j n u h.len hn hu hj]; exact hx)
    have e : (⟨g, 0, none⟩ : Addr).add (i * 7 + j) = ⟨g, i * 7 + j, none⟩ := by unfold Addr.add; split <;> simp_all
    rw [e] at this
    rw [Nat.zero_add]; exact this
   obtain ⟨A6, c6, rfl, hA6, h6, h6'⟩ := ry hint
   have hrn := hr n (List.mem_of_getElem? hn)
   refine ⟨hcell 0 _ (by omega) Z, hcell 1 _ (by omega) Z, hcell 2 _ (by omega) Z, hcell 3 _ (by omega) Z, hcell 4 _ (by omega) Z, hcell 5 _ (by omega) Z, ⟨A6, c6, hcell 6 _ (by omega) Z, hrn.2, h6, by unfold maxLen at h6'; omega, fun hl => ?_⟩, hrn.1⟩
   rcases hint.2 with ⟨he, h0⟩ | ⟨g6, cap6, cur6, he, _⟩
   · omega
   · injection he with hA _ _
     subst hA
     refine ⟨g6, 0, rfl, hlts i _ hu _ Z, fun j x hx => ?_⟩
     have := hint.cells (g := g6) rfl j (.int .i64 x) (by simp [cI, hx])
     have e : (⟨g6, 0, none⟩ : Addr).add j = ⟨g6, j, none⟩ := by unfold Addr.add; split <;> simp_all
     rw [e] at this
     rw [Nat.zero_add]; exact this
theorem wx (nd : FK.Node) (A : Option Addr) (n c : Nat) (k : Int) (seed : Nat) (h1 : 1 ≤ nd.base) (h2 : nd.base ≤ nd.cap) (h3 : nd.cap ≤ 1048576) (h4 : 0 ≤ nd.jitter) (h5 : nd.jitter ≤ 1048576) (hs : seed < 18446744073709551616) : Does Tryz.prog G 136 [.agg (aw nd (.slice A n c)).toArray, .int .i64 k, .int .u64 seed].toArray [] fun v m => v = .int .i64 (eO nd.base nd.cap nd.jitter k seed) ∧ m = [] :=
 (du (φ := fun _ => True) fun _ w _ _ _ => mK nd.budget nd.close nd.beat nd.base nd.cap nd.jitter A n c k seed w h1 h2 h3 h4 h5 (by omega) (by omega)).does
theorem xu {e : Nat} {p : EA} {S : FK.En} {id n : Nat} {R : FK.Rn} {w : World} {F : Nat → Prop} (hR : S.getR id = some R) (h : (ap e p S).sat w F) (hF : ∀ k, F k → k < n) (hr : ∀ n ∈ R.fl.nodes, (i64 n.budget ∧ i64 n.close ∧ i64 n.beat ∧ i64 n.base ∧ i64 n.cap ∧ i64 n.jitter) ∧ ∀ x ∈ n.after, i64 x) : NodesAt w n (some ⟨(p.ra id).gn, 0, none⟩) (p.ra id).cn R.fl.nodes := by
 have h0 : Star w (iC e p S) F := h
 have h1 : Star w (eI p S.runs) F := Star.mem (p := d9 p S.runs) h0 (by simp)
 have h2 : (io (p.fb id) (p.ra id) R).sat w F := Star.mem h1 (List.mem_map.2 ⟨(id, R), nz hR, rfl⟩)
 have h3 : Star w (lD (p.fb id) (p.ra id) R) F := h2
 have hlen : (p.ra id).vs.length = R.fl.nodes.length := Star.mem (p := HP.pure ((p.ra id).vs.length = R.fl.nodes.length)) h3 (by simp)
 have hrow := Star.mem (p := row 46 7 ((p.ra id).nv R) R.fl.nodes.length (bl R.fl.nodes (p.ra id).vs)) h3 (by simp)
 have hafts : Star w (bB (p.ra id).vs R.fl.nodes) F := Star.mem (p := dJ (p.ra id).vs R.fl.nodes) h3 (by simp)
 have hint : ∀ (i : Nat) (nd : FK.Node) (u : Value), R.fl.nodes[i]? = some nd → (p.ra id).vs[i]? = some u → (bh u nd.after).sat w F := fun i nd u hi hu => by
  have hz : ((p.ra id).vs.zip R.fl.nodes)[i]? = some (u, nd) := by simp [List.getElem?_zip_eq_some, hi, hu]
  exact Star.mem hafts (List.mem_map.2 ⟨(u, nd), List.mem_of_getElem? hz, rfl⟩)
 have hown : OwnNodes w 0 ((p.ra id).nv R) R.fl.nodes (p.ra id).vs := ⟨hlen, hrow.1, fun i nd u hi hu => (hint i nd u hi hu).1⟩
 refine hown.nodesAtB (fun g hg => hF g (hrow.2 g hg)) (fun i u hu g hg => ?_) hr
 have hil : i < R.fl.nodes.length := by rw [← hlen]; exact (List.getElem?_eq_some_iff.1 hu).1
 exact hF g ((hint i R.fl.nodes[i] u (List.getElem?_eq_getElem hil) hu).2 g hg)
end Go.Proofs.YtmeegfamopaljaaGreatDoor
