/- The engine's leave, Any, Works, Runs, Clock, Seed, Beat. -/
import Derived.Test.YtmeegfamopaljaaGreatDoorHnF
import Derived.Scope
import Derived.Test.YtmeegfamopaljaaGreatDoorHnC
import Derived.Test.YtmeegfamopaljaaGreatDoorHnD
set_option maxRecDepth 10000
namespace Go.Proofs.YtmeegfamopaljaaGreatDoor
open Go Go.RowKit Go.SL
variable {G : Env → Prop}
theorem sm (S : FK.En) (t : Nat) : (cx S).eraseP (·.1 == t) = cx { S with CI := S.CI.eraseP (·.1 == t) } := by
 unfold cx
 rw [List.eraseP_map]
 rfl
section
variable {P : Program} {E : Env} {n : Nat} {D : List Deferred} {ts : List (Nat × Value)} {l r : List HP} {Q : Exit → Act → World → Prop} {ty : TypeId} {pos : String} {af : Array Edge} {g : Option (Nat × Bool)} {t : TypeId} {x y : Operand} {e : Nat} {p : EA} {S : FK.En} {K : Act → World → Prop} [H : HasEng l e p S r]
theorem wU {tok : Nat} {t kt et : TypeId} {d : Option Tmp} (hd : d = none) (ht : P.underlying t = some (.map kt et)) (hk : KeyK P kt Nat aY) (hx : ev ts x = some (.map (some p.tm))) (hy : ev ts y = some (aY tok))
 (h : At E n D ts (ap e p { S with CI := S.CI.eraseP (·.1 == tok) } :: r) K) : At E n D ts l (fun ac w => (Oper.mk d (.call { callee := .builtin .delete, args := #[x, y], argTypes := #[t, kt] }) ty pos af g).wp P ac w K Q) := by
 refine At.ent (Ent.sel H.sel) (bq ?_)
 show At E n D ts (HP.pure (cZ S) :: cS e (ip S p) S.CH :: bP aY p.rm (dN S p) :: ek p S.runs :: bP aY p.tm (cx S) :: cF p.w S.now S.sets S.tms :: r) _
 refine qh (b := p.tm) (a := tok) hd ht hk hx hy (.tail (.tail (.tail (.tail .head)))) ?_
 rw [sm]
 refine At.ent ?_ h
 refine Ent.trans ?_ (Ent.all (m := iL e p { S with CI := S.CI.eraseP (·.1 == tok) }))
 exact (cc (.tail .head) (.tail .head) (.tail .head)).trans (Ent.cons (Ent.cons (Ent.cons (Ent.sel (.tail .head)))))
end
section
variable {nd : FK.Node} {R : FK.Rn} {q : FK.Pl}
theorem jo {e : Nat} {p : EA} {S : FK.En} {id k : Nat} {wh : Int} {s : FK.Sp} (hR : S.getR id = some R) (hs : R.CF[k]? = some s) (hl : S.tms.length ≤ 99999) : Does Tryz.prog G 232 [aO e, gE ⟨id, (k : Int), wh⟩].toArray [ap e p S] fun v m => v = .pointer (some ⟨(p.ra id).gs, 0 + k * 3, none⟩) ∧ m = [ap e p (S.leave id k)] := by
 have hk := (List.getElem?_eq_some_iff.1 hs).1
 refine Does.body Tryz.func232 Z Z fun E fr hE => ?_
 refine ai (At.seq (At.region (L.op Z (cb Z Z fun b3 => (L.as Z Z (L.nil (At.then (At.seq (Dr.start Z (dP 0 Z Z (ae Z) (dP 1 Z Z (am Z) (dP 2 Z Z (ab (off := 1) Z Z) ?_))))))))))))
 refine dL 3 Z Z (aa Z Z) (aU fun _ _ _ => rfl) ?_
 refine dP 4 Z Z (ab (off := 0) Z Z) (dL 5 Z Z (aa Z Z) (ag Z) (dL 6 Z Z (eN (a := id) (v := aO (p.fb id)) Z dV Z Z (e8 hR)) dp (dP 7 Z Z (am Z) (dP 8 Z Z (ab (off := 3) Z Z) (dL 9 Z Z (aa (v := (p.ra id).sv R) Z Z) (bQ hR Z) (dP 10 Z Z (ab (off := 1) Z Z) (dL 11 Z Z (aa Z Z) (ag Z) (dP 12 Z Z (aT (z := 3) Z Z Z Z hk) (dP 13 Z Z (ax Z) (dE (At.then (At.seq (Dr.start Z (dP 0 Z Z (ae Z) (dP 1 Z Z (am Z) (dP 2 Z Z (ab (off := 2) Z Z) ?_))))))))))))))))
 refine dL 3 Z Z (aa Z Z) (aU fun _ _ _ => rfl) ?_
 refine dP 4 Z Z (ae Z) (dP 5 Z Z (am Z) (dP 6 Z Z (ab (off := 2) Z Z) (dL 7 Z Z (aa (v := .int .u64 s.token) Z Z) (ec hR hs Z) (dR 8 Z Z (wU (tok := s.token) Z Z dV Z Z (dK [false, false] Kept.nil (dE (At.then (At.seq ?_)))))))))
 have hR1 : { S with CI := S.CI.eraseP (·.1 == s.token) }.getR id = some R := hR
 refine At.region (L.mv Z Z (aR Z Z (aI 2 Z Z Z ?_)))
 refine L.op Z (iP (s' := { s with token := 0 }) hR1 hs Z Z Z Z (by omega) Z Z ?_)
 refine L.nil (At.then (At.seq (Dr.start Z (dP 0 Z Z (ae Z) (dP 1 Z Z (am Z) (dP 2 Z Z (ab (off := 6) Z Z) ?_))))))
 refine dL 3 Z Z (aa Z Z) (aU fun _ _ _ => rfl) ?_
 refine dP 4 Z Z (ab (off := 0) Z Z) (dL 5 Z Z (aa Z Z) (ag Z) (dP 6 Z Z (ab (off := 1) Z Z) (dL 7 Z Z (aa Z Z) (ag Z) (dP 8 Z Z (bn (cs := #[.int .u64 id, .int .i64 (k : Int), .int .i64 1]) Z Z Z Z Z) ?_))))
 refine dR 9 Z Z (ah Z Z Z hE (nY ⟨id, (k : Int), 1⟩ (by exact hl)) (Ent.refl _) ?_)
 rintro v m ⟨rfl, rfl⟩
 refine ai (dK [true, true, false] (Kept.cons (ag Z) (Kept.cons (ag Z) Kept.nil)) (dE (At.then (At.seq (Dr.start Z (dP 0 Z Z (ae Z) (dP 1 Z Z (am Z) (dP 2 Z Z (ab (off := 6) Z Z) ?_))))))))
 refine dL 3 Z Z (aa Z Z) (aU fun _ _ _ => rfl) ?_
 refine dP 4 Z Z (ab (off := 0) Z Z) (dL 5 Z Z (aa Z Z) (ag Z) (dP 6 Z Z (ab (off := 1) Z Z) (dL 7 Z Z (aa Z Z) (ag Z) (dP 8 Z Z (bn (cs := #[.int .u64 id, .int .i64 (k : Int), .int .i64 2]) Z Z Z Z Z) ?_))))
 refine dR 9 Z Z (ah Z Z Z hE (nY ⟨id, (k : Int), 2⟩ (Nat.le_trans (List.length_filter_le _ _) (by exact hl))) (Ent.refl _) ?_)
 rintro v m ⟨rfl, rfl⟩
 refine ai (dK [true, true, false] (Kept.cons (ag Z) (Kept.cons (ag Z) Kept.nil)) (dE (At.then (At.seq (At.region (L.mv Z Z (L.as Z Z (L.nil (At.then (At.ret ?_))))))))))
 exact aA [ap e p (S.leave id k)] rfl Z ⟨rfl, rfl⟩ (by rw [FK.dI hR hs]; exact Ent.cons Ent.drop)
theorem xt {P : Program} {ts : List (Nat × Value)} {K : Type} [BEq K] {enc : K → Value} {t kt et : TypeId} {x y : Operand} {b : Nat} {m : List (K × Value)} {a : K} {z v : Value} {o : Bool} (ht : P.underlying t = some (.map kt et)) (hk : KeyK P kt K enc) (hz : fA P et z) (hx : ev ts x = some (.map (some b))) (hy : ev ts y = some (enc a)) (hv : (cI m a).getD z = v) (ho : (cI m a).isSome = o) :
 Ev P ts (.lookup t x y true) (.tuple #[v, .bool o]) (gB enc b m) := by
 subst hv; subst ho
 exact rQ ht hk hz hx hy
theorem sb {e : Nat} {p : EA} {S : FK.En} : Does Tryz.prog G 99 [aO e].toArray [ap e p S] fun v m => v = .bool (decide (0 < S.CH.length)) ∧ m = [ap e p S] := by
 refine Does.body Tryz.func99 Z Z fun E fr hE => ?_
 refine ai (At.seq (At.region (L.as Z Z (L.nil (At.then (At.seq (At.region (L.mv Z Z (aR Z Z (aI 3 Z Z Z ?_))))))))))
 refine L.op Z (ah Z Z Z hE yU (Ent.refl _) ?_)
 rintro v m ⟨rfl, rfl⟩
 refine ai (L.pure Z (cG Z Z Z) (L.as Z Z (L.nil (At.then (At.ret ?_)))))
 exact aA [_] rfl Z ⟨by congr 1; simp, rfl⟩ (Ent.refl _)
theorem n8 {e : Nat} {p : EA} {S : FK.En} (t : Nat) : Does Tryz.prog G 165 [aO e, aY t].toArray [ap e p S] fun v m => v = .bool (S.CI.any (·.1 == t)) ∧ m = [ap e p S] := by
 have hb : (cI (cx S) t).isSome = S.CI.any (·.1 == t) := by rw [iU]; simp [List.isSome_find?]
 obtain ⟨q, hq⟩ : ∃ q : FK.Pl, (cI (cx S) t).getD (gE ⟨0, 0, 0⟩) = gE q := by
  rw [iU]
  cases S.CI.find? (·.1 == t) with
  | none => exact ⟨⟨0, 0, 0⟩, rfl⟩
  | some x => exact ⟨x.2, rfl⟩
 refine Does.body Tryz.func165 Z Z fun E fr hE => ?_
 refine ai (At.seq (At.region (L.as Z Z (L.nil (At.then (At.seq (At.region (L.mv Z Z (aR Z Z (aI 2 Z Z Z ?_))))))))))
 refine L.val Z (aa (v := .map (some p.tm)) Z Z) (aU fun _ _ _ => rfl) ?_
 refine L.mv Z Z (L.val Z (xt (m := cx S) Z dV Z Z Z hq hb) kr (L.mv Z Z (L.ex Z Z Z (L.ex Z Z Z (L.op Z (aN (z := .agg #[.int .u64 0, .int .i64 0, .int .i64 0]) Z Z fun b5 => ?_))))))
 refine L.op Z (aK Z (m := 3) Z Z Z Z (by simp [Value.oneCell']) (by first | decide | (simp [Value.cells]; done) | (simp [Value.cells]; omega)) ?_)
 exact L.as Z Z (L.nil (At.then (At.seq (At.region (L.mv Z Z (L.as Z Z (L.nil (At.then (At.ret (aA [ap e p S] rfl Z ⟨rfl, rfl⟩ Ent.drop))))))))))
theorem wA {e : Nat} {p : EA} {S : FK.En} (sd : Nat) : Does Tryz.prog G 211 [aO e, aY sd].toArray [ap e p S] fun v m => v = .tuple #[] ∧ m = [ap e p { S with seed := sd }] := by
 refine Does.body Tryz.func211 Z Z fun E fr hE => ?_
 refine ai (At.region (L.mv Z Z (L.mv Z Z (aR Z Z (aI 0 Z Z Z ?_)))))
 refine L.op Z (m7 (S := S) (S' := { S with seed := sd }) Z Z Z (by omega) Z (fun _ _ _ => rfl) Z Z Z Z Z Z ?_)
 exact L.nil (bm [ap e p { S with seed := sd }] rfl ⟨rfl, rfl⟩ (Ent.refl _))
theorem va {e : Nat} {p : EA} {S : FK.En} : Does Tryz.prog G 135 [aO e].toArray [ap e p S] fun v m => v = .tuple #[.int .u64 S.now, .int .u64 S.seed] ∧ m = [ap e p S] := by
 refine Does.body Tryz.func135 Z Z fun E fr hE => ?_
 refine ai (At.seq (At.region (L.as Z Z (L.as Z Z (L.nil (At.then (At.seq (Dr.start Z (dP 0 Z Z (ae Z) (dP 1 Z Z (am Z) (dP 2 Z Z (ab (off := 6) Z Z) ?_)))))))))))
 refine dL 3 Z Z (aa Z Z) (aU fun _ _ _ => rfl) ?_
 refine dP 5 Z Z (ae Z) (dP 6 Z Z (am Z) (dP 7 Z Z (ab (off := 0) Z Z) ?_))
 refine dL 8 Z Z (aa Z Z) (aU fun _ _ _ => rfl) ?_
 refine dR 4 Z Z (ah Z Z Z hE qz (Ent.refl _) ?_)
 rintro v m ⟨rfl, rfl⟩
 refine ai ?_
 refine dK [true, false] (Kept.cons (aU fun _ _ _ => rfl) Kept.nil) ?_
 exact dP 9 Z Z (ax Z) (dP 10 Z Z (ax Z) (dE (At.then (At.ret (cU [ap e p S] rfl Z Z ⟨rfl, rfl⟩ (Ent.refl _))))))
theorem pF {S : FK.En} : (S.life q nd).runs = S.runs := by
 unfold FK.En.life
 split <;> rfl
theorem life_R {S : FK.En} {id : Nat} : (S.life q nd).getR id = S.getR id := by
 unfold FK.En.getR
 rw [pF]
theorem xK {e : Nat} {p : EA} {S : FK.En} {t id k : Nat} {wh : Int} (ht : (S.CI.find? (·.1 == t)).map (·.2) = some ⟨id, (k : Int), wh⟩) (hR : S.getR id = some R) (hn : R.fl.CG[k]? = some nd) (h1 : S.now ≤ 4611686018427387904) (h2 : nd.beat ≤ 4611686018427387904) (h3 : S.sets < 9223372036854775807) (hl : S.tms.length ≤ 99998) : Does Tryz.prog G 206 [aO e, aY t].toArray [ap e p S] fun v m => v = .tuple #[] ∧ m = [ap e p (S.life ⟨id, (k : Int), wh⟩ nd)] := by
 have hk := (List.getElem?_eq_some_iff.1 hn).1
 have htv : cI (cx S) t = some (gE ⟨id, (k : Int), wh⟩) := by
  rw [iU]
  cases hf : S.CI.find? (·.1 == t) with
  | none => rw [hf] at ht; cases ht
  | some x => rw [hf] at ht; injection ht with ht; simp only [Option.map_some, ht]
 refine Does.body Tryz.func206 Z Z fun E fr hE => ?_
 refine ai ?_
 refine eP (fun w hw => jR hR hn hw) fun hA => ?_
 obtain ⟨A, c, hu, -⟩ := hA
 refine At.seq (At.region (L.mv Z Z (aR Z Z (aI 2 Z Z Z ?_))))
 refine L.val Z (aa (v := .map (some p.tm)) Z Z) (aU fun _ _ _ => rfl) ?_
 refine L.mv Z Z (L.val Z (eN (m := cx S) Z dV Z Z htv) kr (L.op Z (aN (z := .agg #[.int .u64 0, .int .i64 0, .int .i64 0]) Z Z fun b4 => ?_)))
 refine L.op Z (aK Z (m := 3) Z Z Z Z (by simp [Value.oneCell']) (by first | decide | (simp [Value.cells]; done) | (simp [Value.cells]; omega)) ?_)
 refine L.nil (At.then (Dr.start Z (dP 0 Z Z (ae Z) (dL 1 Z Z (ao (vs := fL ⟨id, (k : Int), wh⟩) Z Z Z Z) (aw Z) (dP 2 Z Z (ae Z) (dP 3 Z Z (am Z) (dP 4 Z Z (ab (off := 1) Z Z) ?_)))))))
 refine dL 5 Z Z (aa Z Z) (aU fun _ _ _ => rfl) ?_
 refine dP 6 Z Z (ab (off := 0) Z Z) (dL 7 Z Z (aa Z Z) (ag Z) (dL 8 Z Z (eN (a := id) (v := aO (p.fb id)) Z dV Z Z (e8 hR)) dp (dP 9 Z Z (am Z) (dP 10 Z Z (ab (off := 0) Z Z) (dP 11 Z Z (ab (off := 1) Z Z) (dL 12 Z Z (aa (v := (p.ra id).nv R) Z Z) (bQ hR Z) (dP 13 Z Z (ab (off := 1) Z Z) (dL 14 Z Z (aa Z Z) (ag Z) (dP 15 Z Z (aT (z := 7) Z Z Z Z hk) (dL 16 Z Z (ao (vs := av nd (.slice A nd.after.length c)) Z Z Z Z) (dz hR hn hu) ?_))))))))))
 refine dR 17 Z Z (ah Z Z Z hE (pG ⟨id, (k : Int), wh⟩ nd (.slice A nd.after.length c) h1 h2 h3 hl) (Ent.sel (.tail (.head))) ?_)
 rintro v m ⟨rfl, rfl⟩
 refine ai ?_
 refine dK [false, true, true, true, true, true, false] (Kept.cons (ag Z) (Kept.cons (bQ (life_R.trans hR) Z) (Kept.cons (xz pF) (Kept.cons (ag Z) (Kept.cons (aU (S := S.life ⟨id, (k : Int), wh⟩ nd) fun _ _ _ => rfl) Kept.nil))))) ?_
 exact dE (bm [ap e p (S.life ⟨id, (k : Int), wh⟩ nd)] rfl ⟨rfl, rfl⟩ (Ent.cons Ent.drop))
end
end Go.Proofs.YtmeegfamopaljaaGreatDoor

namespace Go.SL
open Go Go.RowKit
section
variable {P : Program} {E : Env} {n : Nat} {D : List Deferred} {ts : List (Nat × Value)} {l : List HP} {Q : Exit → Act → World → Prop}
theorem Ad {c : Code} (h : At E n D ts l (c.wp P (Exit.noGoto Q))) : At E n D ts l ((Code.scope c).wp P Q) := fun a w f hw => wp_scope_straight (h a w f hw)
theorem vf (h : At E n D ts l (Q .normal)) : At E n D ts l (Exit.noGoto Q .normal) := h
end
end Go.SL

namespace Go.Proofs.YtmeegfamopaljaaGreatDoor
open Go Go.RowKit Go.SL
variable {G : Env → Prop}
theorem eB {b : Nat} {xs : List Int} {r : List HP} (h : xs.length ≤ maxLen) : Ent (blk b 3 (bp xs).toArray :: r) (aF (.slice (some ⟨b, 0, none⟩) xs.length xs.length) xs :: r) :=
 cC (Nat.le_refl _) h (by simp [bp]) (by rw [List.take_of_length_le (by simp [bp])])
abbrev wd (fl : FK.Flow) : Prop := ∀ nd ∈ fl.CG, ∀ x ∈ nd.after, 0 ≤ x ∧ x < (fl.CG.length : Int)
set_option maxRecDepth 10000 in
set_option maxHeartbeats 1000000 in
theorem pk {e : Nat} {p : EA} {S : FK.En} {id : Nat} {R : FK.Rn} (hR : S.getR id = some R) (hlen : R.CF.length = R.fl.CG.length) (hfit : wd R.fl) (hn : R.fl.CG.length ≤ 100) (hq : S.CH.length ≤ 300) : Does Tryz.prog G 160 [aO e, aY id].toArray [ap e p S] fun v m => v = .tuple #[] ∧ m = [ap e p (S.wake id)] := by
 refine Does.body Tryz.func160 Z Z fun E fr hE => ?_
 refine ai (Ad (At.seq (At.region (L.mv Z Z (aR Z Z (aI 1 Z Z Z ?_))))))
 refine L.val Z (aa (v := .map (some p.rm)) Z Z) (aU fun _ _ _ => rfl) ?_
 refine L.mv Z Z (L.val Z (eN (m := dN S p) Z dV Z Z (e8 hR)) dp (L.as Z Z (L.nil (At.then (At.seq (Ae (At.then (At.seq (At.region (L.mv Z Z (aR Z Z (aI 0 Z Z Z (aI 1 Z Z Z (L.val Z (aa (v := (p.ra id).nv R) Z Z) (bQ hR Z) (L.pure Z (aM Z Z) (L.mv Z Z (L.nil (At.then (At.block ?_)))))))))))))))))))
 refine bk (X := Nat) (fun k => [(21, .int .i64 k), (20, .int .i64 R.fl.CG.length), (19, (p.ra id).nv R), (4, aO (p.fb id)), (0, aO e), (1, aY id)]) (fun k => ap e p (S.wakeN id k) :: fr) (fun k => k ≤ R.fl.CG.length) (fun k => R.fl.CG.length - k) 0 (Nat.zero_le _) ⟨rfl, rfl, rfl, rfl, rfl, rfl, trivial⟩ (Ent.refl _) ?_
 intro k hk
 refine At.seq (At.region (L.pure Z (bl Z Z Z) (L.nil (At.then (At.seq ?_)))))
 refine aE Z (fun c22 => ?_) (fun c22 => ?_)
 ·
  have hlt : k < R.fl.CG.length := by omega
  obtain ⟨R1, hR1, hS1, hq1⟩ := FK.nC hR k
  obtain ⟨nd, cN⟩ : ∃ nd, R.fl.CG[k]? = some nd := ⟨R.fl.CG[k], by simp [hlt]⟩
  have hnd1 : R1.fl.CG[k]? = some nd := by rw [hS1.fl]; exact cN
  obtain ⟨s, hs⟩ : ∃ s, R1.CF[k]? = some s := ⟨R1.CF[k]'(by rw [hS1.len]; omega), by simp [hS1.len, hlen, hlt]⟩
  refine eP (fun w hw => jR hR1 hnd1 hw) fun hA => ?_
  obtain ⟨A, c, hu, hA1, hA2, hA3, hA4⟩ := hA
  replace hA4 : c ≤ 9223372036854775807 := hA4
  refine At.skip (At.then (At.seq (At.block (At.seq (At.region (L.mv Z Z (L.pure Z (aT (z := 7) Z Z Z Z hlt) (L.val Z (ao (vs := av nd (.slice A nd.after.length c)) Z Z Z Z) (dz hR1 hnd1 hu) (L.op Z (aN (z := .agg #[.int .i64 0, .int .i64 0, .int .i64 0, .int .i64 0, .int .i64 0, .int .i64 0, .slice none 0 0]) Z Z fun b6 => (L.as Z Z ?_)))))))))))
  refine L.op Z (aK (vs := av nd (.slice A nd.after.length c)) Z (m := 7) Z Z Z Z (by simp [av, Value.oneCell']) (by show 0 + 7 ≤ 7; omega) ?_)
  refine At.ent (l' := blk b6 46 (av nd (.slice A nd.after.length c)).toArray :: ap e p (S.wakeN id k) :: fr) (Ent.refl _) ?_
  refine L.nil (At.then (At.seq (At.seq (At.region (L.mv Z Z (L.mv Z Z (L.op Z (da Z Z Z Z Z Z fun b28 => ?_))))))))
  refine L.op Z (ah Z Z Z hE (ne [1] (some ⟨b28, 0, none⟩) 1 hR1 hs) ((aP (.tail (.tail (.head))) .head).trans (Ent.cons (eB (xs := [1]) (show 1 ≤ 9223372036854775807 by omega)))) ?_)
  rintro v m ⟨rfl, rfl⟩
  refine ai (L.pure Z (cg Z Z) (L.nil (At.then ?_)))
  refine fG Z (fun c30 => ?_) (fun c30 => ?_)
  ·
   have hs1 : s.state ≠ 1 := by simpa using c30
   refine At.exit (az (ar (At.then (At.region (L.pure Z (aS (r := ((k + 1 : Nat) : Int)) Z Z (by rw [dd (by omega)]; omega)) (L.mv Z Z (L.nil ?_)))))))
   exact At.round (k + 1) hlt (by omega) ⟨rfl, rfl, rfl, rfl, rfl, rfl, trivial⟩ (by
    rw [FK.fi, FK.jK hR1, FK.kj hs hnd1, if_neg (by simp [hs1])]
    exact Ent.cons Ent.drop)
  ·
   have hs1 : s.state = 1 := by simpa using c30
   refine At.skip (At.then (At.seq (At.seq (At.region (aI 6 Z Z Z (bd Z Z Z Z (L.pure Z (aM Z Z) (L.mv Z Z (L.nil (At.then (At.block ?_)))))))))))
   refine bk (X := Nat) (fun j => [(34, .int .i64 j), (33, .int .i64 nd.after.length), (32, .slice A nd.after.length c), (21, .int .i64 k), (20, .int .i64 R.fl.CG.length), (19, (p.ra id).nv R), (4, aO (p.fb id)), (0, aO e), (1, aY id), (5, .int .i64 k)]) (fun j => ap e p (S.wakeN id k) :: fr) (fun j => j ≤ nd.after.length ∧ ∀ i x, i < j → nd.after[i]? = some x → FK.bS R1.CF x.toNat 5 = true) (fun j => nd.after.length - j) 0 ⟨Nat.zero_le _, fun i x h => by omega⟩ ⟨rfl, rfl, rfl, rfl, rfl, rfl, rfl, rfl, rfl, rfl, trivial⟩ (Ent.cons Ent.drop) ?_
   rintro j ⟨hj, hall⟩
   refine At.seq (At.region (L.pure Z (bl Z Z Z) (L.nil (At.then (At.seq ?_)))))
   refine aE Z (fun c35 => ?_) (fun c35 => ?_)
   ·
    have hjl : j < nd.after.length := by omega
    obtain ⟨g, rfl⟩ : ∃ g, A = some ⟨g, 0, none⟩ := by
     cases A with
     | none => have := (hA1 rfl).1; omega
     | some ad => obtain ⟨g, rfl⟩ := hA2 ad rfl; exact ⟨g, rfl⟩
    obtain ⟨x, hx⟩ : ∃ x, nd.after[j]? = some x := ⟨nd.after[j], by simp [hjl]⟩
    obtain ⟨hx0, hxn⟩ := hfit nd (List.mem_of_getElem? cN) x (List.mem_of_getElem? hx)
    obtain ⟨u, rfl⟩ : ∃ u : Nat, x = (u : Int) := ⟨x.toNat, by omega⟩
    obtain ⟨s2, hs2⟩ : ∃ s2, R1.CF[u]? = some s2 := ⟨R1.CF[u]'(by rw [hS1.len]; omega), by simp⟩
    refine At.skip (At.then (At.seq (At.block (At.seq (At.region (L.pure Z (aT (z := 1) Z Z Z Z hjl) (L.val Z (aa (v := .int .i64 (u : Int)) Z Z) (se hR1 hnd1 hu hx) (L.as Z Z (L.nil (At.then (At.seq (At.region (L.mv Z Z (L.mv Z Z (L.op Z (da Z Z Z Z Z Z fun b40 => ?_))))))))))))))))
    refine L.op Z (ah Z Z Z hE (ne [5] (some ⟨b40, 0, none⟩) 1 hR1 hs2) ((aP (.tail (.head)) .head).trans (Ent.cons (eB (xs := [5]) (show 1 ≤ 9223372036854775807 by omega)))) ?_)
    rintro v m ⟨rfl, rfl⟩
    refine ai (L.pure Z (cg Z Z) (L.nil (At.then ?_)))
    refine fG Z (fun c42 => ?_) (fun c42 => ?_)
    ·
     have hs5 : s2.state ≠ 5 := by simpa using c42
     have hno : (nd.after.all fun u => FK.bS R1.CF u.toNat 5) = false := by
      rw [List.all_eq_false]
      exact ⟨_, List.mem_of_getElem? hx, by rw [Int.toNat_natCast, FK.dw hs2]; simpa using hs5⟩
     refine At.exit (dM Z (az (ay (dM Z (az (ar (At.then (At.region (L.pure Z (aS (r := ((k + 1 : Nat) : Int)) Z Z (by rw [dd (by omega)]; omega)) (L.mv Z Z (L.nil ?_)))))))))))
     exact At.round (k + 1) hlt (by omega) ⟨rfl, rfl, rfl, rfl, rfl, rfl, trivial⟩ (by
      rw [FK.fi, FK.jK hR1, FK.kj hs hnd1, hno, if_neg (by simp)]
      exact Ent.refl _)
    ·
     have hs5 : s2.state = 5 := by simpa using c42
     refine At.skip (an (At.then (At.region (L.pure Z (aS (r := ((j + 1 : Nat) : Int)) Z Z (by rw [dd (by omega)]; omega)) (L.mv Z Z (L.nil ?_))))))
     exact At.round (j + 1) ⟨hjl, fun i y hi hy => (by
      rcases Nat.lt_succ_iff_lt_or_eq.1 hi with h | rfl
      · exact hall i y h hy
      · rw [hx] at hy; injection hy with hy; subst hy; rw [Int.toNat_natCast, FK.dw hs2]; simpa using hs5)⟩ (by omega) ⟨rfl, rfl, rfl, rfl, rfl, rfl, rfl, rfl, rfl, rfl, trivial⟩ (Ent.refl _)
   ·
    have hyes : (nd.after.all fun u => FK.bS R1.CF u.toNat 5) = true := by
     rw [List.all_eq_true]
     intro y hy
     obtain ⟨i, hi, rfl⟩ := List.getElem_of_mem hy
     exact hall i _ (by omega) (List.getElem?_eq_getElem hi)
    refine At.exit (az (ay (ar (At.then (At.region (L.mv Z Z (L.mv Z Z (L.mv Z Z (L.pure Z (bn (cs := #[.int .u64 id, .int .i64 (k : Int), .int .i64 0]) Z Z Z Z Z) ?_)))))))))
    refine L.op Z (ah Z Z Z hE (ot (wh := 0) hR1 hs (by omega)) (Ent.refl _) ?_)
    rintro v m ⟨rfl, rfl⟩
    refine ai (L.nil (an (At.then (At.region (L.pure Z (aS (r := ((k + 1 : Nat) : Int)) Z Z (by rw [dd (by omega)]; omega)) (L.mv Z Z (L.nil ?_)))))))
    exact At.round (k + 1) hlt (by omega) ⟨rfl, rfl, rfl, rfl, rfl, rfl, trivial⟩ (by
     rw [FK.fi, FK.jK hR1, FK.kj hs hnd1, hyes, if_pos (by simp [hs1])]
     exact Ent.refl _)
 ·
  have hke : k = R.fl.CG.length := by omega
  refine At.exit (az (ay (ar (vf (bm [ap e p (S.wake id)] rfl ⟨rfl, rfl⟩ ?_)))))
  have : S.wake id = S.wakeN id k := by unfold FK.En.wake; rw [hR, hke]
  rw [this]
  exact Ent.refl _
end Go.Proofs.YtmeegfamopaljaaGreatDoor

set_option maxRecDepth 10000
namespace FK
theorem mN {q : List Pl} {x : Pl} (id : Nat) : (q ++ [x]).filter (fun p => p.run != id) = q.filter (fun p => p.run != id) ++ if x.run != id then [x] else [] := by
 rw [List.filter_append]
 simp [List.filter_cons]
end FK
namespace Go.Proofs.YtmeegfamopaljaaGreatDoor
open Go Go.RowKit Go.SL
variable {G : Env → Prop}
theorem neI (a b : Nat) : (a != b) = decide ((a : Int) ≠ (b : Int)) := by
 by_cases h : a = b
 · subst h; simp
 · rw [decide_eq_true (by omega)]; simpa using h
theorem qY (c id : Nat) (q : FK.Pl) : Does Tryz.prog G 259 [gE q, aO c].toArray [blk c 51 #[aY id]] fun v m => v = .bool (q.run != id) ∧ m = [blk c 51 #[aY id]] := by
 refine Does.body Tryz.func259 Z Z fun E fr hE => ?_
 refine ai (At.seq (At.region (L.op Z (cb Z Z fun b2 => (L.as Z Z (L.nil (At.then (At.seq (At.region (aI 0 Z Z Z (bd Z Z Z Z (bd Z Z Z Z (L.pure Z (bX Z Z Z) (L.as Z Z (L.nil (At.then (At.ret ?_)))))))))))))))))
 exact aA [_] rfl Z ⟨by rw [neI], rfl⟩ Ent.drop
theorem Ca {E : Env} {l r : List HP} {e : Nat} {C : EC} {q : List FK.Pl} (s : Sel (cS e C q) l r) : ∀ w, Holds E w l → bK ⟨e, 5, none⟩ (.int .i64 q.length) w := fun w hw => by
 obtain ⟨F1, _, _, _, _, hp, _⟩ := (hw.sel s).star
 obtain ⟨⟨rv, N, f, rg⟩, h1⟩ := hp
 have h2 : (kZ e C rv f q.length).sat w F1 := Star.mem (l := [HP.pure (FK.RingOk N f q rg), kZ e C rv f q.length, row 268 3 rv N (rV N rg)]) h1 (by simp)
 have := h2.2
 simp only [bK, World.cell?, this]
 rfl
theorem xi {q : List FK.Pl} (e : Nat) (C : EC) (c id : Nat) (hq : q.length ≤ 400) : Does Tryz.prog G 258 [oP e, .func (.func 259) #[] #[aO c]].toArray [cS e C q, blk c 51 #[aY id]] fun v m => v = .tuple #[] ∧ m = [cS e C (q.filter fun p => p.run != id)] := by
 refine Does.body Tryz.func258 Z Z fun E fr hE => ?_
 refine aJ (At.seq (At.region (L.mv Z Z (aR Z Z (aI 2 Z Z Z (L.val Z (aa (v := .int .i64 q.length) Z Z) (Ca .head) (L.as Z Z (L.nil (At.then (At.block ?_))))))))))
 refine bk (X := List FK.Pl × List FK.Pl) (fun x => [(4, .int .i64 x.2.length), (0, oP e), (1, .func (.func 259) #[] #[aO c])]) (fun x => cS e C (x.2 ++ x.1.filter fun p => p.run != id) :: blk c 51 #[aY id] :: fr) (fun x => x.1 ++ x.2 = q) (fun x => x.2.length) ([], q) Z ⟨rfl, rfl, rfl, trivial⟩ (by
   show Ent _ (cS e C (q ++ []) :: _)
   rw [List.append_nil]
   exact Ent.refl _) ?_
 rintro ⟨done, left⟩ hdl
 simp only at hdl ⊢
 refine At.seq (At.seq (At.region (L.mv Z Z (L.pure Z (cG Z Z Z) (L.nil (At.then ?_))))))
 refine aE Z (fun c12 => ?_) (fun c12 => ?_)
 ·
  obtain ⟨x, left, rfl⟩ : ∃ x l, left = x :: l := by
   cases left with
   | nil => simp at c12
   | cons x l => exact ⟨x, l, rfl⟩
  have hln : done.length + (left.length + 1) = q.length := by rw [← hdl]; simp
  have hfl := List.length_filter_le (fun p : FK.Pl => p.run != id) done
  refine At.skip (At.then (At.seq (At.block (At.seq (At.region (L.mv Z Z ?_))))))
  refine L.op Z (ah Z Z Z hE (pu e C) (Ent.refl _) ?_)
  rintro v m ⟨rfl, rfl⟩
  refine ai (L.mv Z Z (L.ex Z Z Z (L.ex Z Z Z (L.op Z (aN (z := .agg #[.int .u64 0, .int .i64 0, .int .i64 0]) Z Z fun b5 => ?_)))))
  refine L.op Z (aK (vs := fL x) Z (m := 3) Z Z Z Z (by simp [Value.oneCell']) (by show 0 + 3 ≤ 3; omega) ?_)
  refine At.ent (l' := blk b5 268 (fL x).toArray :: cS e C (left ++ done.filter fun p => p.run != id) :: blk c 51 #[aY id] :: fr) (Ent.refl _) ?_
  refine L.as Z Z (L.nil (At.then (At.seq (At.region (L.mv Z Z (L.val Z (ao (vs := fL x) Z Z Z Z) (aw Z) ?_))))))
  refine L.op Z (j6 Z Z Z Z hE (qY c id x) (Ent.sel (.tail (.tail (.head)))) ?_)
  rintro v m ⟨rfl, rfl⟩
  refine ai (L.nil (At.then ?_))
  refine fG Z (fun c22 => ?_) (fun c22 => ?_)
  ·
   refine At.region (L.mv Z Z (L.val Z (ao (vs := fL x) Z Z Z Z) (aw Z) ?_))
   refine L.op Z (ah Z Z Z hE (oq e C x (by rw [List.length_append]; omega)) (Ent.sel (.tail (.tail (.head)))) ?_)
   rintro v m ⟨rfl, rfl⟩
   refine ai (L.nil (an (At.then (At.region (L.mv Z Z (L.pure Z (eu (r := (left.length : Int)) Z Z (by rw [dd (by simp; omega)]; simp)) (L.as Z Z (L.nil ?_))))))))
   exact At.round (done ++ [x], left) (by rw [← hdl]; simp) (by simp) ⟨rfl, rfl, rfl, trivial⟩ (by
    show Ent _ (cS e C (left ++ (done ++ [x]).filter fun p => p.run != id) :: _)
    rw [FK.mN, if_pos c22, ← List.append_assoc]
    exact Ent.cons (Ent.cons Ent.drop))
  ·
   refine At.skip (an (At.then (At.region (L.mv Z Z (L.pure Z (eu (r := (left.length : Int)) Z Z (by rw [dd (by simp; omega)]; simp)) (L.as Z Z (L.nil ?_)))))))
   exact At.round (done ++ [x], left) (by rw [← hdl]; simp) (by simp) ⟨rfl, rfl, rfl, trivial⟩ (by
    show Ent _ (cS e C (left ++ (done ++ [x]).filter fun p => p.run != id) :: _)
    rw [FK.mN, if_neg (by simp [c22]), List.append_nil]
    exact (Ent.sel (.tail (.tail .head))).trans (Ent.cons (Ent.cons Ent.drop)))
 ·
  obtain rfl : left = [] := by
   cases left with
   | nil => rfl
   | cons x l => simp at c12
  rw [List.append_nil] at hdl
  subst hdl
  exact At.exit (az (ay (ar (bm [_] rfl ⟨rfl, rfl⟩ (Ent.cons Ent.drop)))))
theorem zy {e : Nat} {p : EA} {S : FK.En} (c id : Nat) (hq : S.CH.length ≤ 400) : Does Tryz.prog G 258 [oP e, .func (.func 259) #[] #[aO c]].toArray [ap e p S, blk c 51 #[aY id]] fun v m => v = .tuple #[] ∧ m = [ap e p { S with CH := S.CH.filter fun p => p.run != id }] := by
 refine Does.part (c := [HP.pure (cZ S), bP aY p.rm (dN S p), ek p S.runs, bP aY p.tm (cx S), cF p.w S.now S.sets S.tms]) (xi e (ip S p) c id hq) ?_ ?_
 · refine (Ent.unall (m := iL e p S)).trans ((aP (.tail .head) (.tail (.tail (.tail (.tail (.tail .head)))))).trans ?_)
   exact Ent.refl _
 · rintro v m ⟨rfl, rfl⟩
   exact ⟨_, ⟨rfl, rfl⟩, (Ent.sel (.tail .head)).trans (Ent.all (m := iL e p { S with CH := S.CH.filter fun p => p.run != id }))⟩
section
variable {P : Program} {E : Env} {n : Nat} {D : List Deferred} {ts : List (Nat × Value)} {l : List HP} {Q : Exit → Act → World → Prop} {i : Nat} {ty : TypeId} {pos : String} {af : Array Edge} {g : Option (Nat × Bool)}
theorem rF {t e : TypeId} {z : Value} {x y : Operand} {v u : Value} {K : Act → World → Prop} (hi : Nat.blt i n = true) (ht : P.underlying t = some (.slice e)) (hz : ce P e 1) (hzz : fA P e z) (hx : ev ts x = some v) (hv : v.oneCell' = true) (hy : ev ts y = some u) (hu : u.oneCell' = true)
 (h : ∀ b, At E n D ((i, .slice (some ⟨b, 0, none⟩) 2 2) :: ts) (blk b e #[v, u] :: l) K) : At E n D ts l (fun a w => (Oper.mk (some i) (.buildSlice t 2 #[(0, x), (1, y)]) ty pos af g).wp P a w K Q) :=
 dF (ps := [(0, x), (1, y)]) (vs := [v, u]) (cs := #[v, u]) hi ht hz hzz (by omega) (by omega) (by simp [evs, hx, hy]) (by
  have e1 : Array.range (2 * 1) = #[0, 1] := rfl
  rw [e1]
  simp [Instr.fill, gT hv, gT hu]) h
end
set_option maxHeartbeats 1000000 in
theorem jY {e : Nat} {p : EA} {S : FK.En} {id : Nat} {st : Int} {R : FK.Rn} (hR : S.getR id = some R) (hn : R.CF.length ≤ 100) (hq : S.CH.length ≤ 400) (hl : S.tms.length ≤ 99999) (hends : S.ends < 9223372036854775807) : Does Tryz.prog G 235 [aO e, aY id, .int .i64 st].toArray [ap e p S] fun v m => v = .tuple #[] ∧ m = [ap e p (S.finish id st)] := by
 refine Does.body Tryz.func235 Z Z fun E fr hE => ?_
 refine ai (At.seq (At.region (L.op Z (cb Z Z fun b4 => (L.nil (At.then (At.seq (Dr.start Z (dP 0 Z Z (ae Z) (dP 1 Z Z (am Z) (dP 2 Z Z (ab (off := 1) Z Z) ?_)))))))))))
 refine dL 3 Z Z (aa Z Z) (aU fun _ _ _ => rfl) ?_
 refine dL 4 Z Z (aa Z Z) (ag Z) (dL 5 Z Z (eN (a := id) (v := aO (p.fb id)) Z dV Z Z (e8 hR)) dp (dP 6 Z Z (ax Z) (dE (At.then (At.seq (At.region (L.mv Z Z (aR Z Z (aI 9 Z Z Z ?_)))))))))
 refine L.val Z (aa (v := .int .u64 S.ends) Z Z) (aU fun _ _ _ => rfl) ?_
 refine L.pure Z (aS (r := ((S.ends + 1 : Nat) : Int)) Z Z (by rw [kE]; omega)) (aR Z Z (aI 9 Z Z Z ?_))
 refine L.op Z (m7 (S := S) (S' := { S with ends := S.ends + 1 }) Z Z Z (by omega) Z (fun _ _ _ => rfl) Z Z Z Z Z Z ?_)
 refine L.nil (At.then (At.seq ?_))
 obtain ⟨S1, hS1⟩ : ∃ S1, S1 = { S with ends := S.ends + 1 } := ⟨_, rfl⟩
 have hR1 : S1.getR id = some R := by rw [hS1]; exact hR
 have hE1 : S1.ends = S.ends + 1 := by rw [hS1]
 rw [← hS1]
 refine At.region (L.mv Z Z (L.mv Z Z (L.mv Z Z (L.mv Z Z (aR Z Z (aI 9 Z Z Z ?_))))))
 refine L.val Z (aa (v := .int .u64 ((S.ends + 1 : Nat) : Int)) Z Z) (aU fun _ _ _ => by rw [← hE1]; rfl) ?_
 refine aR Z Z (aI 2 Z Z Z ?_)
 refine L.op Z (vB (R' := { R with state := st }) hR1 Z Z Z (by omega) Z Z Z Z ?_)
 refine aR Z Z (aI 4 Z Z Z ?_)
 refine L.op Z (vB (S := S1.setR id { R with state := st }) (R := { R with state := st }) (R' := { R with state := st, ended := S.ends + 1 }) (FK.ch hR1) Z Z Z (by omega) Z Z Z Z ?_)
 refine L.nil (At.then (At.seq (Dr.start Z (dP 0 Z Z (ae Z) (dP 1 Z Z (am Z) (dP 2 Z Z (ab (off := 6) Z Z) ?_))))))
 refine dL 3 Z Z (aa Z Z) (aU fun _ _ _ => rfl) ?_
 refine dL 4 Z Z (aa Z Z) (ag Z) (dP 5 Z Z (bn (cs := #[.int .u64 id, .int .i64 (-1), .int .i64 0]) Z Z Z Z Z) ?_)
 refine dR 6 Z Z (ah Z Z Z hE (nY ⟨id, -1, 0⟩ (by rw [hS1]; exact hl)) (Ent.refl _) ?_)
 rintro v m ⟨rfl, rfl⟩
 refine ai (dK [true, false] (Kept.cons (ag Z) Kept.nil) (dE (At.then (At.seq (At.seq ?_)))))
 obtain ⟨T, hT⟩ : ∃ T, T = (S1.setR id { R with state := st, ended := S.ends + 1 }).unset ⟨id, -1, 0⟩ := ⟨_, rfl⟩
 have hRT : T.getR id = some { R with state := st, ended := S.ends + 1 } := by rw [hT]; exact FK.ch hR1
 have hlT : T.tms.length ≤ 99999 := by rw [hT, hS1]; exact Nat.le_trans (List.length_filter_le _ _) hl
 have hqT : T.CH = S.CH := by rw [hT, hS1]; rfl
 rw [FK.ed, ← hT]
 refine At.region (L.mv Z Z (aR Z Z (aI 3 Z Z Z (L.val Z (aa (v := (p.ra id).sv R) Z Z) (bQ hRT Z) (L.pure Z (aM Z Z) (L.mv Z Z (L.nil (At.then (At.block ?_)))))))))
 refine bk (X := Nat) (fun k => [(45, .int .i64 k), (44, .int .i64 R.CF.length), (6, aO (p.fb id)), (0, aO e), (4, aO b4)]) (fun k => ap e p (T.endN id k) :: blk b4 51 #[aY id] :: fr) (fun k => k ≤ R.CF.length) (fun k => R.CF.length - k) 0 (Nat.zero_le _) ⟨rfl, rfl, rfl, rfl, rfl, trivial⟩ (Ent.refl _) ?_
 intro k hk
 obtain ⟨R1, hR2, hsame, hl2, hq2⟩ := FK.vR hRT k hk
 have hlen : R1.CF.length = R.CF.length := hsame.len
 refine At.seq (At.region (L.pure Z (bl Z Z Z) (L.nil (At.then (At.seq ?_)))))
 refine aE Z (fun c46 => ?_) (fun c46 => ?_)
 ·
  have hlt : k < R.CF.length := by omega
  obtain ⟨s, hs⟩ : ∃ s, R1.CF[k]? = some s := ⟨R1.CF[k]'(by omega), by simp⟩
  refine At.skip (At.then (At.seq (At.block (At.seq (At.region (L.mv Z Z (L.as Z Z (L.nil (At.then (At.seq (At.region (L.mv Z Z (bd Z Z Z Z (L.mv Z Z (L.pure Z (bn (cs := #[.int .u64 id, .int .i64 (k : Int), .int .i64 0]) Z Z Z Z Z) ?_)))))))))))))))
  refine L.op Z (ah Z Z Z hE (jo (wh := 0) hR2 hs (by omega)) (Ent.refl _) ?_)
  rintro v m ⟨rfl, rfl⟩
  refine ai (L.as Z Z (L.nil (At.then (At.seq (At.region (L.mv Z Z (L.mv Z Z (L.op Z (rF Z Z Z Z Z Z Z Z fun b55 => ?_)))))))))
  refine L.op Z (ah Z Z Z hE (ne [5, 6] (some ⟨b55, 0, none⟩) 2 (FK.f7 hR2 hs) (FK.cv hs)) ((aP (.tail (.head)) .head).trans (Ent.cons (eB (xs := [5, 6]) (show 2 ≤ 9223372036854775807 by omega)))) ?_)
  rintro v m ⟨rfl, rfl⟩
  refine ai (L.pure Z (cg Z Z) (L.nil (At.then ?_)))
  refine fG Z (fun c57 => ?_) (fun c57 => ?_)
  ·
   have hne : ¬ (s.state = 5 ∨ s.state = 6) := by simpa using c57
   refine At.region (L.mv Z Z (aR Z Z (aI 0 Z Z Z ?_)))
   refine L.op Z (iP (S := (T.endN id k).leave id k) (R := R1.setS k { s with token := 0 }) (s := { s with token := 0 }) (j := 0) (s' := { s with token := 0, state := 7 }) (FK.f7 hR2 hs) (FK.cv hs) Z Z Z Z (by omega) Z Z ?_)
   refine L.nil (an (At.then (At.region (L.pure Z (aS (r := ((k + 1 : Nat) : Int)) Z Z (by rw [dd (by omega)]; omega)) (L.mv Z Z (L.nil ?_))))))
   exact At.round (k + 1) hlt (by omega) ⟨rfl, rfl, rfl, rfl, rfl, trivial⟩ (by
    rw [FK.ku, FK.ng hR2 hs]
    unfold FK.eK
    rw [if_neg hne]
    exact Ent.refl _)
  ·
   have hne : s.state = 5 ∨ s.state = 6 := Decidable.byContradiction fun h => by simp only [not_or] at h; simp [h.1, h.2] at c57
   refine At.skip (an (At.then (At.region (L.pure Z (aS (r := ((k + 1 : Nat) : Int)) Z Z (by rw [dd (by omega)]; omega)) (L.mv Z Z (L.nil ?_))))))
   exact At.round (k + 1) hlt (by omega) ⟨rfl, rfl, rfl, rfl, rfl, trivial⟩ (by
    rw [FK.ku, FK.ng hR2 hs]
    unfold FK.eK
    rw [if_pos hne, FK.kb, FK.uD hR2 hs]
    exact Ent.refl _)
 ·
  have hke : k = R.CF.length := by omega
  refine At.exit (az (ay (ar (At.then (At.region (L.mv Z Z (aR Z Z (aI 3 Z Z Z ?_))))))))
  refine L.pure Z (eO Z Z) ?_
  refine L.op Z (ah Z Z Z hE (zy b4 id (by rw [hq2, hqT]; exact hq)) (Ent.refl _) ?_)
  rintro v m ⟨rfl, rfl⟩
  refine ai (L.nil (bm [ap e p (S.finish id st)] rfl ⟨rfl, rfl⟩ ?_))
  rw [FK.pQ hR, hke, hT, hS1]
  exact Ent.refl _
end Go.Proofs.YtmeegfamopaljaaGreatDoor

set_option maxHeartbeats 1000000
set_option maxRecDepth 10000
namespace FK
theorem pt {S : En} {id : Nat} {R : Rn} (hR : S.getR id = some R) : S.settle id = if R.CF.all over then S.finish id (if R.CF.all fun s => s.state == 5 then 2 else 3) else S := by
 unfold En.settle
 rw [hR]
theorem Ao {S : En} {id : Nat} {R : Rn} (hR : S.getR id = some R) : ∃ R', (S.wake id).getR id = some R' ∧ SameR R R' ∧ (S.wake id).CH.length ≤ S.CH.length + R.fl.CG.length := by
 have : S.wake id = S.wakeN id R.fl.CG.length := by unfold En.wake; rw [hR]
 rw [this]
 exact nC hR _
theorem y7 (S : En) (id k : Nat) (g : Sp → Sp) : (S.onS id k g).now = S.now ∧ (S.onS id k g).seed = S.seed ∧ (S.onS id k g).tms = S.tms ∧ (S.onS id k g).sets = S.sets ∧ (S.onS id k g).CI = S.CI ∧ (S.onS id k g).ends = S.ends ∧ (S.onS id k g).CD = S.CD ∧ (S.onS id k g).CC = S.CC := by
 unfold En.onS
 split
 · split <;> exact ⟨rfl, rfl, rfl, rfl, rfl, rfl, rfl, rfl⟩
 · exact ⟨rfl, rfl, rfl, rfl, rfl, rfl, rfl, rfl⟩
theorem tU (S : En) (id k : Nat) : (En.wakeK id S k).now = S.now ∧ (En.wakeK id S k).seed = S.seed ∧ (En.wakeK id S k).tms = S.tms ∧ (En.wakeK id S k).sets = S.sets ∧ (En.wakeK id S k).CI = S.CI ∧ (En.wakeK id S k).ends = S.ends ∧ (En.wakeK id S k).CD = S.CD ∧ (En.wakeK id S k).CC = S.CC := by
 unfold En.wakeK
 split
 · split
   · exact y7 S id k _
   · exact ⟨rfl, rfl, rfl, rfl, rfl, rfl, rfl, rfl⟩
 · exact ⟨rfl, rfl, rfl, rfl, rfl, rfl, rfl, rfl⟩
theorem oc (S : En) (id : Nat) : ∀ n, (S.wakeN id n).now = S.now ∧ (S.wakeN id n).seed = S.seed ∧ (S.wakeN id n).tms = S.tms ∧ (S.wakeN id n).sets = S.sets ∧ (S.wakeN id n).CI = S.CI ∧ (S.wakeN id n).ends = S.ends ∧ (S.wakeN id n).CD = S.CD ∧ (S.wakeN id n).CC = S.CC
 | 0 => ⟨rfl, rfl, rfl, rfl, rfl, rfl, rfl, rfl⟩
 | n + 1 => by
  rw [fi]
  obtain ⟨a, b, c, d, e, f, g, h⟩ := tU (S.wakeN id n) id n
  obtain ⟨a', b', c', d', e', f', g', h'⟩ := oc S id n
  exact ⟨a.trans a', b.trans b', c.trans c', d.trans d', e.trans e', f.trans f', g.trans g', h.trans h'⟩
theorem pj (S : En) (id : Nat) : (S.wake id).now = S.now ∧ (S.wake id).seed = S.seed ∧ (S.wake id).tms = S.tms ∧ (S.wake id).sets = S.sets ∧ (S.wake id).CI = S.CI ∧ (S.wake id).ends = S.ends ∧ (S.wake id).CD = S.CD ∧ (S.wake id).CC = S.CC := by
 unfold En.wake
 split
 · exact oc S id _
 · exact ⟨rfl, rfl, rfl, rfl, rfl, rfl, rfl, rfl⟩
end FK
namespace Go.Proofs.YtmeegfamopaljaaGreatDoor
open Go Go.RowKit Go.SL
variable {G : Env → Prop}
theorem mA {e : Nat} {p : EA} {S : FK.En} {id : Nat} {R : FK.Rn} (hR : S.getR id = some R) (hn : R.CF.length ≤ 100) (hq : S.CH.length ≤ 400) (hl : S.tms.length ≤ 99999) (hends : S.ends < 9223372036854775807) : Does Tryz.prog G 233 [aO e, aY id].toArray [ap e p S] fun v m => v = .tuple #[] ∧ m = [ap e p (S.settle id)] := by
 refine Does.body Tryz.func233 Z Z fun E fr hE => ?_
 refine ai (At.seq (At.region (L.mv Z Z (aR Z Z (aI 1 Z Z Z ?_)))))
 refine L.val Z (aa (v := .map (some p.rm)) Z Z) (aU fun _ _ _ => rfl) ?_
 refine L.mv Z Z (L.val Z (eN (m := dN S p) Z dV Z Z (e8 hR)) dp (L.as Z Z (L.nil (At.then (At.seq (At.region (L.as Z Z (L.nil (At.then (At.seq (At.seq (At.region (L.mv Z Z (aR Z Z (aI 3 Z Z Z (L.val Z (aa (v := (p.ra id).sv R) Z Z) (bQ hR Z) (L.pure Z (aM Z Z) (L.mv Z Z (L.nil ?_)))))))))))))))))))
 refine At.then (At.block ?_)
 refine bk (X := Nat) (fun k => [(18, .int .i64 k), (17, .int .i64 R.CF.length), (5, .int .i64 (if (R.CF.take k).all (fun s => s.state == 5) then 2 else 3)), (4, aO (p.fb id)), (0, aO e), (1, aY id)]) (fun _ => ap e p S :: fr) (fun k => k ≤ R.CF.length ∧ (R.CF.take k).all FK.over = true) (fun k => R.CF.length - k) 0 ⟨Nat.zero_le _, by simp⟩ ⟨rfl, rfl, rfl, rfl, rfl, rfl, trivial⟩ (Ent.refl _) ?_
 rintro k ⟨hk, hall⟩
 refine At.seq (At.region (L.pure Z (bl Z Z Z) (L.nil (At.then (At.seq ?_)))))
 refine aE Z (fun c19 => ?_) (fun c19 => ?_)
 ·
  have hlt : k < R.CF.length := by omega
  obtain ⟨s, hs⟩ : ∃ s, R.CF[k]? = some s := ⟨R.CF[k], by simp [hlt]⟩
  have htk : R.CF.take (k + 1) = R.CF.take k ++ [s] := by rw [List.take_add_one, hs]; rfl
  refine At.skip (At.then (At.seq (At.block (At.seq (At.region (L.mv Z Z (L.as Z Z (L.nil (At.then (At.seq (At.region (L.mv Z Z (aR Z Z (aI 3 Z Z Z (L.val Z (aa (v := (p.ra id).sv R) Z Z) (bQ hR Z) (L.mv Z Z (L.pure Z (aT (z := 3) Z Z Z Z hlt) (aI 0 Z Z Z (L.val Z (aa (v := .int .i64 s.state) Z Z) (ec hR hs Z) ?_)))))))))))))))))))
  refine L.nil (At.then (At.block (At.seq (At.region (L.pure Z (aH Z Z Z) (L.as Z Z (L.nil (At.then ?_))))))))
  refine aE Z (fun c29 => ?_) (fun c29 => ?_)
  ·
   refine At.skip (an (an (At.then (At.region (L.pure Z (aS (r := ((k + 1 : Nat) : Int)) Z Z (by rw [dd (by omega)]; omega)) (L.mv Z Z (L.nil ?_)))))))
   exact At.round (k + 1) ⟨hlt, by rw [htk, List.all_append, hall]; simp [FK.over, c29]⟩ (by omega) ⟨rfl, rfl, by rw [show (if (R.CF.take (k + 1)).all (fun s => s.state == 5) then (2 : Int) else 3) = (if (R.CF.take k).all (fun s => s.state == 5) then (2 : Int) else 3) by rw [htk, List.all_append]; simp [c29]]; rfl, rfl, rfl, rfl, trivial⟩ (Ent.refl _)
  ·
   refine At.seq (At.seq (At.region (L.pure Z (aH Z Z Z) (L.as Z Z (L.nil (At.then ?_))))))
   refine aE Z (fun c31 => ?_) (fun c31 => ?_)
   ·
    refine At.skip (At.then ?_)
    refine aE Z (fun c31 => ?_) (fun c31 => ?_)
    ·
     refine At.region (L.as Z Z (L.nil (an (an (At.then (At.region (L.pure Z (aS (r := ((k + 1 : Nat) : Int)) Z Z (by rw [dd (by omega)]; omega)) (L.mv Z Z (L.nil ?_)))))))))
     exact At.round (k + 1) ⟨hlt, by rw [htk, List.all_append, hall]; simp [FK.over, c31]⟩ (by omega) ⟨rfl, rfl, by rw [show (if (R.CF.take (k + 1)).all (fun s => s.state == 5) then (2 : Int) else 3) = 3 by rw [htk, List.all_append]; simp [c29]]; rfl, rfl, rfl, rfl, trivial⟩ (Ent.refl _)
    ·
     refine At.ret (aB (aB (aG (cp (aB (aG ?_))))))
     exact absurd (by assumption) c31
   ·
    refine At.region (L.pure Z (aH Z Z Z) (L.as Z Z (L.nil (At.then ?_))))
    refine aE Z (fun c31 => ?_) (fun c31 => ?_)
    ·
     refine At.region (L.as Z Z (L.nil (an (an (At.then (At.region (L.pure Z (aS (r := ((k + 1 : Nat) : Int)) Z Z (by rw [dd (by omega)]; omega)) (L.mv Z Z (L.nil ?_)))))))))
     exact At.round (k + 1) ⟨hlt, by rw [htk, List.all_append, hall]; simp [FK.over, c31]⟩ (by omega) ⟨rfl, rfl, by rw [show (if (R.CF.take (k + 1)).all (fun s => s.state == 5) then (2 : Int) else 3) = 3 by rw [htk, List.all_append]; simp [c29]]; rfl, rfl, rfl, rfl, trivial⟩ (Ent.refl _)
    ·
     refine At.ret (aB (aB (aG (cp (aB (aG (bm [ap e p (S.settle id)] rfl ⟨rfl, rfl⟩ ?_)))))))
     have : ¬ R.CF.all FK.over = true := fun h => by
      have := List.all_eq_true.1 h s (List.mem_of_getElem? hs)
      simp [FK.over] at this
      omega
     rw [FK.pt hR, if_neg this]
     exact Ent.refl _
 ·
  have hke : k = R.CF.length := by omega
  rw [hke, List.take_length] at hall
  have hst : R.CF.take k = R.CF := by rw [hke, List.take_length]
  rw [hst]
  refine At.exit (az (ay (ar (At.then (At.region (L.mv Z Z (L.mv Z Z (L.mv Z Z ?_))))))))
  refine L.op Z (ah Z Z Z hE (jY hR hn hq hl hends) (Ent.refl _) ?_)
  rintro v m ⟨rfl, rfl⟩
  refine ai (L.nil ?_)
  exact bm [ap e p (S.settle id)] rfl ⟨rfl, rfl⟩ (by rw [FK.pt hR, if_pos hall]; exact Ent.refl _)
theorem yi {S : FK.En} {t : Nat} {q : FK.Pl} (ht : (S.CI.find? (·.1 == t)).map (·.2) = some q) : cI (cx S) t = some (gE q) := by
 rw [iU]
 cases hf : S.CI.find? (·.1 == t) with
 | none => rw [hf] at ht; cases ht
 | some x => rw [hf] at ht; injection ht with ht; simp only [Option.map_some, ht]
theorem oX {e : Nat} {p : EA} {S : FK.En} {t id k : Nat} {wh : Int} {R : FK.Rn} {s : FK.Sp} (ht : (S.CI.find? (·.1 == t)).map (·.2) = some ⟨id, (k : Int), wh⟩) (hR : S.getR id = some R) (hs : R.CF[k]? = some s) (hlen : R.CF.length = R.fl.CG.length) (hfit : wd R.fl) (hn : R.fl.CG.length ≤ 100) (hq : S.CH.length ≤ 300) (hl : S.tms.length ≤ 99999) (hends : S.ends < 9223372036854775807) : Does Tryz.prog G 207 [aO e, aY t].toArray [ap e p S] fun v m => v = .tuple #[] ∧ m = [ap e p (S.complete t)] := by
 refine Does.body Tryz.func207 Z Z fun E fr hE => ?_
 refine ai (At.seq (At.region (L.mv Z Z (aR Z Z (aI 2 Z Z Z ?_)))))
 refine L.val Z (aa (v := .map (some p.tm)) Z Z) (aU fun _ _ _ => rfl) ?_
 refine L.mv Z Z (L.val Z (eN (m := cx S) Z dV Z Z (yi ht)) kr (L.op Z (aN (z := .agg #[.int .u64 0, .int .i64 0, .int .i64 0]) Z Z fun b4 => ?_)))
 refine L.op Z (aK (vs := fL ⟨id, (k : Int), wh⟩) Z (m := 3) Z Z Z Z (by simp [Value.oneCell']) (by show 0 + 3 ≤ 3; omega) ?_)
 refine At.ent (l' := blk b4 268 (fL ⟨id, (k : Int), wh⟩).toArray :: ap e p S :: fr) (Ent.refl _) ?_
 refine L.nil (At.then (At.seq (At.region (L.mv Z Z (L.val Z (ao (vs := fL ⟨id, (k : Int), wh⟩) Z Z Z Z) (aw Z) ?_)))))
 refine L.op Z (ah Z Z Z hE (jo (wh := wh) hR hs hl) (Ent.sel (.tail (.head))) ?_)
 rintro v m ⟨rfl, rfl⟩
 refine ai (aR Z Z (aI 0 Z Z Z ?_))
 refine L.op Z (iP (S := S.leave id k) (R := R.setS k { s with token := 0 }) (s := { s with token := 0 }) (j := 0) (s' := { s with token := 0, state := 5 }) (FK.f7 hR hs) (FK.cv hs) Z Z Z Z (by omega) Z Z ?_)
 refine L.nil (At.then (At.seq ?_))
 obtain ⟨T, hT⟩ : ∃ T, T = (S.leave id k).setR id ((R.setS k { s with token := 0 }).setS k { s with token := 0, state := 5 }) := ⟨_, rfl⟩
 obtain ⟨R1, hR1d⟩ : ∃ R1, R1 = (R.setS k { s with token := 0 }).setS k { s with token := 0, state := 5 } := ⟨_, rfl⟩
 have hsm : FK.SameR R R1 := by rw [hR1d]; exact (FK.SameR.setS R k _).trans (FK.SameR.setS _ k _)
 have hRT : T.getR id = some R1 := by rw [hT, hR1d]; exact FK.ch (FK.f7 hR hs)
 have hqT : T.CH = S.CH := by rw [hT]; exact FK.jX
 have hlT : T.tms.length ≤ 99999 := by rw [hT]; exact Nat.le_trans FK.kf hl
 have hends' : T.ends = S.ends := by rw [hT, FK.dI hR hs]; rfl
 have hcomp : S.complete t = (T.wake id).settle id := by
  unfold FK.En.complete
  rw [ht]
  show (((S.leave id (k : Int).toNat).onS id (k : Int).toNat fun s => { s with state := 5 }).wake id).settle id = _
  rw [Int.toNat_natCast, FK.nw _ (FK.f7 hR hs) (FK.cv hs), hT]
 rw [← hT]
 obtain ⟨R2, hR2, hsm2, hq2⟩ := FK.Ao hRT
 have hfl := hsm.fl
 have hln := hsm.len
 have hln2 := hsm2.len
 obtain ⟨ws1, ws2, ws3, ws4, ws5, ws6, ws7, ws8⟩ := FK.pj T id
 refine At.region (L.mv Z Z (aI 0 Z Z Z (bd Z Z Z Z ?_)))
 refine L.op Z (ah Z Z Z hE (pk hRT (by rw [hln, hfl]; exact hlen) (by rw [hfl]; exact hfit) (by rw [hfl]; exact hn) (by rw [hqT]; exact hq)) (Ent.refl _) ?_)
 rintro v m ⟨rfl, rfl⟩
 refine ai (L.nil (At.then (At.region (L.mv Z Z (aI 0 Z Z Z (bd Z Z Z Z ?_))))))
 refine L.op Z (ah Z Z Z hE (mA hR2 (by omega) (by rw [hfl, hqT] at hq2; omega) (by rw [ws3]; exact hlT) (by rw [ws6, hends']; exact hends)) (Ent.refl _) ?_)
 rintro v m ⟨rfl, rfl⟩
 refine ai (L.nil ?_)
 exact bm [ap e p (S.complete t)] rfl ⟨rfl, rfl⟩ (by rw [hcomp]; exact Ent.cons Ent.drop)
end Go.Proofs.YtmeegfamopaljaaGreatDoor

namespace Go.Proofs.YtmeegfamopaljaaGreatDoor
open Go Go.RowKit Go.SL
variable {G : Env → Prop}
abbrev bh (run : Nat) (node tr : Int) (token : Nat) : List Value := [.int .u64 run, .int .i64 node, .int .i64 tr, .int .u64 token]
abbrev gc (run : Nat) (node tr : Int) (token : Nat) : Value := .agg (bh run node tr token).toArray
theorem wE {e : Nat} {p : EA} {S : FK.En} {x : FK.Pl} {q : List FK.Pl} (h : S.CH = x :: q) : Does Tryz.prog G 163 [oP e].toArray [ap e p S] fun v m => v = .tuple #[gE x, .bool true] ∧ m = [ap e p { S with CH := q }] :=
 mf (R := fun v m => v = .tuple #[gE x, .bool true] ∧ m = [cS e (ip S p) q]) (by rw [h]; exact pu e _) fun _ _ ⟨h1, h2⟩ => ⟨q, h2, h1, rfl⟩
section
variable {P : Program} {E : Env} {n : Nat} {D : List Deferred} {ts : List (Nat × Value)} {l r : List HP} {Q : Exit → Act → World → Prop} {ty : TypeId} {pos : String} {af : Array Edge} {g : Option (Nat × Bool)} {t : TypeId} {x y z : Operand} {e : Nat} {p : EA} {S : FK.En} {K : Act → World → Prop} [H : HasEng l e p S r]
theorem wV {tok : Nat} {q : FK.Pl} {t kt et : TypeId} {d : Option Tmp} (hd : d = none) (ht : P.underlying t = some (.map kt et)) (hk : KeyK P kt Nat aY) (hx : ev ts x = some (.map (some p.tm))) (hy : ev ts y = some (aY tok)) (hz : ev ts z = some (gE q)) (hn : ∀ t ∈ S.CI, t.1 ≠ tok)
 (h : At E n D ts (ap e p { S with CI := S.CI ++ [(tok, q)] } :: r) K) : At E n D ts l (fun ac w => (Oper.mk d (.mapUpdate t x y z) ty pos af g).wp P ac w K Q) := by
 refine At.ent (Ent.sel H.sel) (bq ?_)
 show At E n D ts (HP.pure (cZ S) :: cS e (ip S p) S.CH :: bP aY p.rm (dN S p) :: ek p S.runs :: bP aY p.tm (cx S) :: cF p.w S.now S.sets S.tms :: r) _
 have hv : cI (cx S) tok = none := by
  rw [iU]
  cases hf : S.CI.find? (·.1 == tok) with
  | none => rfl
  | some u => exact absurd (by simpa using List.find?_some hf) (hn u (List.mem_of_find?_eq_some hf))
 refine qg (b := p.tm) (a := tok) (v := gE q) hd ht hk hx hy hz (.tail (.tail (.tail (.tail .head)))) hv ?_
 refine At.ent ?_ h
 have hm : cx S ++ [(tok, gE q)] = cx { S with CI := S.CI ++ [(tok, q)] } := by simp [cx]
 rw [hm]
 refine Ent.trans ?_ (Ent.all (m := iL e p { S with CI := S.CI ++ [(tok, q)] }))
 exact (cc (.tail .head) (.tail .head) (.tail .head)).trans (Ent.cons (Ent.cons (Ent.cons (Ent.sel (.tail .head)))))
end
set_option maxRecDepth 10000 in
set_option maxHeartbeats 1000000 in
theorem ul {e : Nat} {p : EA} {S : FK.En} {id k : Nat} {q : List FK.Pl} {R : FK.Rn} {s : FK.Sp} {nd : FK.Node} (h : S.CH = ⟨id, (k : Int), 0⟩ :: q) (hR : S.getR id = some R) (hs : R.CF[k]? = some s) (cN : R.fl.CG[k]? = some nd) (hnow : S.now ≤ 4611686018427387904) (hc0 : 0 ≤ nd.close) (hc : nd.close ≤ 4611686018427387904) (hb : nd.beat ≤ 4611686018427387904) (hsets : S.sets + 1 < 9223372036854775807) (hl : S.tms.length ≤ 99997) (htok : S.CC < 9223372036854775807) (htoks : ∀ t ∈ S.CI, t.1 ≤ S.CC) (htr0 : 0 ≤ s.CE) (htr : s.CE < 9223372036854775807) :
 Does Tryz.prog G 101 [aO e].toArray [ap e p S] fun v m => v = .tuple #[gc id k (s.CE + 1) (S.CC + 1), .bool true] ∧ m = [ap e p (S.hand ⟨id, (k : Int), 0⟩ q R s nd)] := by
 have hk := (List.getElem?_eq_some_iff.1 hs).1
 have hkn := (List.getElem?_eq_some_iff.1 cN).1
 have hlat : ∀ (T : FK.En) n, T.now ≤ 4611686018427387904 → T.now ≤ T.later n := fun T n h => by unfold FK.En.later; omega
 have hlat2 : ∀ (T : FK.En) n, T.later n ≤ 4611686018427387904 := fun T n => by unfold FK.En.later; omega
 refine Does.body Tryz.func101 Z Z fun E fr hE => ?_
 refine ai ?_
 refine eP (fun w hw => jR hR cN hw) fun hA => ?_
 obtain ⟨A, c, hu, -⟩ := hA
 refine At.seq (At.region (L.op Z (aN (z := .agg #[.int .u64 0, .int .i64 0, .int .i64 0, .int .u64 0]) Z Z fun b2 => (L.as Z Z (L.nil (At.then (At.seq (At.region (L.mv Z Z (aR Z Z (aI 3 Z Z Z ?_)))))))))))
 refine L.op Z (ah Z Z Z hE (wE h) (Ent.sel (.tail (.head))) ?_)
 rintro v m ⟨rfl, rfl⟩
 refine ai (L.mv Z Z (L.ex Z Z Z (L.ex Z Z Z (L.op Z (aN (z := .agg #[.int .u64 0, .int .i64 0, .int .i64 0]) Z Z fun b4 => ?_)))))
 refine L.op Z (aK (vs := fL ⟨id, (k : Int), 0⟩) Z (m := 3) Z Z Z Z (by simp [Value.oneCell']) (by show 0 + 3 ≤ 3; omega) ?_)
 refine L.as Z Z (L.nil (At.then (At.seq (At.seq (At.region (L.mv Z Z (L.pure Z (cg Z Z) (L.nil (At.then (aj Z (At.skip (At.then (At.seq ?_)))))))))))))
 obtain ⟨S1, hS1⟩ : ∃ S1, S1 = { S with CH := q } := ⟨_, rfl⟩
 rw [← hS1]
 have hR1 : S1.getR id = some R := by rw [hS1]; exact hR
 refine At.ent (l' := blk b4 268 (fL ⟨id, (k : Int), 0⟩).toArray :: ap e p S1 :: blk b2 55 (bh 0 0 0 0).toArray :: fr) (Ent.refl _) ?_
 refine Dr.start Z (dP 0 Z Z (ae Z) (dP 1 Z Z (am Z) (dP 2 Z Z (ab (off := 1) Z Z) ?_)))
 refine dL 3 Z Z (aa Z Z) (aU fun _ _ _ => rfl) ?_
 refine dP 4 Z Z (ab (off := 0) Z Z) (dL 5 Z Z (aa Z Z) (ag Z) (dL 6 Z Z (eN (a := id) (v := aO (p.fb id)) Z dV Z Z (e8 hR1)) dp (dP 7 Z Z (ax Z) (dE (At.then (At.seq (Dr.start Z (dP 0 Z Z (ae Z) (dP 1 Z Z (am Z) (dP 2 Z Z (ab (off := 3) Z Z) (dL 3 Z Z (aa (v := (p.ra id).sv R) Z Z) (bQ hR1 Z) (dP 4 Z Z (ab (off := 1) Z Z) (dL 5 Z Z (aa Z Z) (ag Z) (dP 6 Z Z (aT (z := 3) Z Z Z Z hk) (dP 7 Z Z (ae Z) (dP 8 Z Z (am Z) (dP 9 Z Z (ab (off := 0) Z Z) (dP 10 Z Z (ab (off := 1) Z Z) (dL 11 Z Z (aa (v := (p.ra id).nv R) Z Z) (bQ hR1 Z) ?_)))))))))))))))))))
 refine dP 12 Z Z (ab (off := 1) Z Z) (dL 13 Z Z (aa Z Z) (ag Z) (dP 14 Z Z (aT (z := 7) Z Z Z Z hkn) (dL 15 Z Z (ao (vs := av nd (.slice A nd.after.length c)) Z Z Z Z) (dz hR1 cN hu) (dR 16 Z Z (aN (z := .agg #[.int .i64 0, .int .i64 0, .int .i64 0, .int .i64 0, .int .i64 0, .int .i64 0, .slice none 0 0]) Z Z fun b8 => (dK [true, true, true, true, true] (Kept.cons (dz hR1 cN hu) (Kept.cons (ag Z) (Kept.cons (bQ hR1 Z) (Kept.cons (ag Z) (Kept.cons (bQ hR1 Z) Kept.nil))))) (dP 17 Z Z (ax Z) ?_)))))))
 refine dR 18 Z Z (aK (vs := av nd (.slice A nd.after.length c)) Z (m := 7) Z Z Z Z (by simp [av, Value.oneCell']) (by show 0 + 7 ≤ 7; omega) ?_)
 refine dK [false, false, false, false, false] Kept.nil (dE (At.then (At.seq ?_)))
 have hlt1 : S1.CC = S.CC := by rw [hS1]
 refine At.region (L.mv Z Z (aR Z Z (aI 8 Z Z Z ?_)))
 refine L.val Z (aa (v := .int .u64 S1.CC) Z Z) (aU fun _ _ _ => rfl) ?_
 refine L.pure Z (aS (r := ((S1.CC + 1 : Nat) : Int)) Z Z (by rw [kE]; omega)) (aR Z Z (aI 8 Z Z Z ?_))
 refine L.op Z (m7 (S := S1) (S' := { S1 with CC := S1.CC + 1 }) Z Z Z (by omega) Z (fun _ _ _ => rfl) Z Z Z Z Z Z ?_)
 refine L.nil (At.then (At.seq ?_))
 obtain ⟨S2, hS2⟩ : ∃ S2, S2 = { S1 with CC := S1.CC + 1 } := ⟨_, rfl⟩
 rw [← hS2]
 have hR2 : S2.getR id = some R := by rw [hS2]; exact hR1
 have hlt2 : S2.CC = S.CC + 1 := by rw [hS2, hlt1]
 refine Dr.start Z (dP 0 Z Z (ae Z) (dP 1 Z Z (ae Z) (dP 2 Z Z (am Z) (dP 3 Z Z (ab (off := 1) Z Z) (dL 4 Z Z (aa (v := .int .i64 s.CE) Z Z) (ec hR2 hs Z) (dP 5 Z Z (aS (r := s.CE + 1) Z Z (by rw [dd (by omega)])) (dP 6 Z Z (ae Z) (dP 7 Z Z (am Z) (dP 8 Z Z (ab (off := 8) Z Z) ?_)))))))))
 refine dL 9 Z Z (aa (v := .int .u64 S2.CC) Z Z) (aU fun _ _ _ => rfl) ?_
 refine dP 10 Z Z (bn (cs := #[.int .i64 3, .int .i64 (s.CE + 1), .int .u64 S2.CC]) Z Z Z Z Z) (dP 11 Z Z (am Z) (dR 12 Z Z (wT (s' := ⟨3, s.CE + 1, S2.CC⟩) hR2 hs Z Z Z Z (dK [false, false] Kept.nil (dE (At.then (At.seq ?_)))))))
 obtain ⟨R1, hRd⟩ : ∃ R1, R1 = R.setS k ⟨3, s.CE + 1, S2.CC⟩ := ⟨_, rfl⟩
 have hs1 : R1.CF[k]? = some ⟨3, s.CE + 1, S2.CC⟩ := by rw [hRd]; exact FK.cv hs
 rw [← hRd]
 obtain ⟨S3, hS3⟩ : ∃ S3, S3 = S2.setR id R1 := ⟨_, rfl⟩
 rw [← hS3]
 have hR3 : S3.getR id = some R1 := by rw [hS3]; exact FK.ch hR2
 have ht3 : S3.CI = S.CI := by rw [hS3, hS2, hS1]; rfl
 refine Dr.start Z (dP 0 Z Z (ae Z) (dP 1 Z Z (am Z) (dP 2 Z Z (ab (off := 2) Z Z) ?_)))
 refine dL 3 Z Z (aa Z Z) (aU fun _ _ _ => rfl) ?_
 refine dP 4 Z Z (ae Z) (dP 5 Z Z (am Z) (dP 6 Z Z (ab (off := 2) Z Z) (dL 7 Z Z (aa (v := .int .u64 S2.CC) Z Z) (ec hR3 hs1 Z) (dL 8 Z Z (ao (vs := fL ⟨id, (k : Int), 0⟩) Z Z Z Z) (aw Z) ?_))))
 refine dR 9 Z Z (wV (tok := S2.CC) (q := ⟨id, (k : Int), 0⟩) Z Z dV Z Z Z (fun t ht => by rw [ht3] at ht; have := htoks t ht; omega) ?_)
 refine dK [false, false, false] Kept.nil (dE (At.then (At.seq ?_)))
 obtain ⟨U, hU⟩ : ∃ U, U = { S3 with CI := S3.CI ++ [(S2.CC, (⟨id, (k : Int), 0⟩ : FK.Pl))] } := ⟨_, rfl⟩
 rw [← hU]
 have hRU : U.getR id = some R1 := by rw [hU]; exact hR3
 have hUn : U.now = S.now := by rw [hU, hS3, hS2, hS1]; rfl
 have hUs : U.sets = S.sets := by rw [hU, hS3, hS2, hS1]; rfl
 have hUt : U.tms = S.tms := by rw [hU, hS3, hS2, hS1]; rfl
 refine Dr.start Z (dP 0 Z Z (ae Z) (dP 1 Z Z (am Z) (dP 2 Z Z (ab (off := 6) Z Z) ?_)))
 refine dL 3 Z Z (aa Z Z) (aU fun _ _ _ => rfl) ?_
 refine dP 4 Z Z (ab (off := 0) Z Z) (dL 5 Z Z (aa Z Z) (ag Z) (dP 6 Z Z (ab (off := 1) Z Z) (dL 7 Z Z (aa Z Z) (ag Z) (dP 8 Z Z (bn (cs := #[.int .u64 id, .int .i64 (k : Int), .int .i64 1]) Z Z Z Z Z) (dP 9 Z Z (ae Z) (dP 10 Z Z (ab (off := 1) Z Z) (dL 11 Z Z (aa Z Z) (ag Z) ?_)))))))
 refine dR 12 Z Z (ah Z Z Z hE (jt (S := U) nd.close (by omega) hc0 hc) (Ent.refl _) ?_)
 rintro v m ⟨rfl, rfl⟩
 refine ai ?_
 refine dK [false, true, true, true] (Kept.cons (ag Z) (Kept.cons (ag Z) (Kept.cons (aU fun _ _ _ => rfl) Kept.nil))) ?_
 refine dR 13 Z Z (ah Z Z Z hE (m4 ⟨id, (k : Int), 1⟩ (U.later nd.close.toNat) (hlat U _ (by omega)) (hlat2 U _) (by omega) (by rw [hUt]; omega)) (Ent.refl _) ?_)
 rintro v m ⟨rfl, rfl⟩
 refine ai (dK [true, true, false] (Kept.cons (ag Z) (Kept.cons (ag Z) Kept.nil)) (dE (At.then (At.seq ?_))))
 obtain ⟨V, hV⟩ : ∃ V, V = U.setT ⟨id, (k : Int), 1⟩ (U.later nd.close.toNat) := ⟨_, rfl⟩
 rw [← hV]
 have hRV : V.getR id = some R1 := by rw [hV]; exact hRU
 have hVn : V.now = S.now := by rw [hV]; exact hUn
 have hVs : V.sets = S.sets + 1 := by rw [hV]; show U.sets + 1 = _; rw [hUs]
 have hVt : V.tms.length ≤ S.tms.length + 1 := by
  rw [hV]
  show (U.tms.filter (fun x : FK.KD => x.1 != ⟨id, (k : Int), 1⟩) ++ [((⟨id, (k : Int), 1⟩ : FK.Pl), U.later nd.close.toNat)]).length ≤ _
  have := List.length_filter_le (fun x : FK.KD => x.1 != ⟨id, (k : Int), 1⟩) U.tms
  rw [List.length_append, List.length_singleton, ← hUt]
  omega
 refine At.region (L.mv Z Z (L.val Z (ao (vs := fL ⟨id, (k : Int), 0⟩) Z Z Z Z) (aw Z) (L.val Z (ao (vs := av nd (.slice A nd.after.length c)) Z Z Z Z) (aw Z) ?_)))
 refine L.op Z (ah Z Z Z hE (pG (S := V) ⟨id, (k : Int), 0⟩ nd (.slice A nd.after.length c) (by omega) hb (by omega) (by omega)) (Ent.refl _) ?_)
 rintro v m ⟨rfl, rfl⟩
 refine ai (L.nil (At.then (At.seq ?_)))
 obtain ⟨X, hX⟩ : ∃ X, X = V.life ⟨id, (k : Int), 0⟩ nd := ⟨_, rfl⟩
 have hRX : X.getR id = some R1 := by rw [hX, life_R]; exact hRV
 rw [← hX]
 refine Dr.start Z (dP 0 Z Z (ab (off := 0) Z Z) (dL 1 Z Z (aa Z Z) (ag Z) (dP 2 Z Z (ab (off := 1) Z Z) (dL 3 Z Z (aa Z Z) (ag Z) (dP 4 Z Z (ae Z) (dP 5 Z Z (am Z) (dP 6 Z Z (ab (off := 1) Z Z) (dL 7 Z Z (aa (v := .int .i64 (s.CE + 1)) Z Z) (ec hRX hs1 Z) (dP 8 Z Z (ae Z) (dP 9 Z Z (am Z) (dP 10 Z Z (ab (off := 2) Z Z) (dL 11 Z Z (aa (v := .int .u64 S2.CC) Z Z) (ec hRX hs1 Z) (dP 12 Z Z (bn (cs := (bh id k (s.CE + 1) S2.CC).toArray) Z Z Z Z Z) ?_)))))))))))))
 refine dR 13 Z Z (aK (vs := bh id k (s.CE + 1) S2.CC) Z (m := 4) Z Z Z Z (by simp [Value.oneCell']) (by show 0 + 4 ≤ 4; omega) ?_)
 refine dK [false, false, false, false] Kept.nil (dP 14 Z Z (ax Z) (dE (At.then (At.ret ?_))))
 have hfin : X = S.hand ⟨id, (k : Int), 0⟩ q R s nd := by rw [hX, hV, hU, hS3, hRd, hlt2, hS2, hS1]; rfl
 exact fe [ap e p X] rfl (bZ (vs := bh id k (s.CE + 1) S2.CC) Z Z Z Z (aw Z)) (Res.tmp Z) ⟨by rw [hlt2], by rw [hfin]⟩ (Ent.drop.trans (Ent.cons (Ent.drop.trans Ent.drop)))
end Go.Proofs.YtmeegfamopaljaaGreatDoor

set_option maxRecDepth 10000
namespace Go.Proofs.YtmeegfamopaljaaGreatDoor
open Go Go.RowKit Go.SL
variable {G : Env → Prop}
section
variable {E : Env} {l r : List HP} {p : EA} {L : List (Nat × FK.Rn)}
theorem iX {i : Nat} {x : Nat × FK.Rn} {v : Value} (s : Sel (ek p L) l r) (hx : x ∈ L) (hv : (tG (p.ra x.1) x.2)[i]? = some v) : ∀ w, Holds E w l → bK ⟨p.fb x.1, i, none⟩ v w := fun w hw => by
 obtain ⟨F1, _, _, _, _, hp, _⟩ := (hw.sel s).star
 have h1 : Star w (eV p L) F1 := hp
 have h2 : (iC (p.fb x.1) (p.ra x.1) x.2).sat w F1 := Star.mem h1 (List.mem_map.2 ⟨x, hx, rfl⟩)
 have h3 : Star w (lS (p.fb x.1) (p.ra x.1) x.2) F1 := h2
 have h4 : (tH (p.fb x.1) (p.ra x.1) x.2).sat w F1 := Star.mem h3 (by simp)
 have := h4.2
 simp only [bK, World.cell?, this]
 exact hv
theorem yW {K : Type} {enc : K → Value} {it b : Nat} {m left : List (K × Value)} {cur : Option (K × Value)} (s : Sel (cR enc it b m left cur) l r) : ∀ w, Holds E w l → gB enc b m w := fun w hw => by
 obtain ⟨es, c, _, a1, a2, a3, a4, _⟩ := lb s w hw
 exact ⟨es, c, a1, a2, a3, a4⟩
end
theorem yT {S : FK.En} {p : EA} {x : Nat × FK.Rn} (h : x ∈ S.runs) : cI (dN S p) x.1 = some (aO (p.fb x.1)) := by
 unfold dN
 rw [jk S.runs (fun k _ => aO (p.fb k)) x.1]
 cases hf : S.runs.find? (·.1 == x.1) with
 | none => exact absurd (List.find?_eq_none.1 hf x h) (by simp)
 | some y => rfl
abbrev oldL (e : Nat) (p : EA) (S : FK.En) (it : Nat) (left : List (Nat × FK.Rn)) (cur : Option (Nat × Value)) : List HP := [HP.pure (cZ S), cS e (ip S p) S.CH, cR aY it p.rm (dN S p) (left.map fun r => (r.1, aO (p.fb r.1))) cur, ek p S.runs, bP aY p.tm (cx S), cF p.w S.now S.sets S.tms]
set_option maxHeartbeats 1000000 in
theorem mB {e : Nat} {p : EA} {S : FK.En} : Does Tryz.prog G 154 [aO e].toArray [ap e p S] fun v m => (∃ o, FK.BM S o ∧ v = .tuple #[aY ((o.map (·.1)).getD 0), .bool o.isSome]) ∧ m = [ap e p S] := by
 refine Does.body Tryz.func154 Z Z fun E fr hE => ?_
 refine ai (At.seq (At.region (L.as Z Z (L.as Z Z (L.nil (At.then (At.seq (At.seq ?_))))))))
 refine At.ent (Ent.unall (m := iL e p S)) ?_
 show At E _ _ _ (HP.pure (cZ S) :: cS e (ip S p) S.CH :: bP aY p.rm (dN S p) :: ek p S.runs :: bP aY p.tm (cx S) :: cF p.w S.now S.sets S.tms :: fr) _
 refine At.region (L.mv Z Z (aR Z Z (aI 1 Z Z Z ?_)))
 refine L.val Z (aa (v := .map (some p.rm)) Z Z) (yD fun _ _ _ => rfl) ?_
 refine L.op Z (m8 (b := p.rm) Z Z Z (.tail (.tail .head)) fun it => (L.nil (At.then (At.block ?_))))
 refine bk (X := List (Nat × FK.Rn) × Option (Nat × Value) × Option (Nat × FK.Rn)) (fun x => [(10, .pointer (some ⟨it, 0, none⟩)), (2, aY ((x.2.2.map (·.1)).getD 0)), (3, .bool x.2.2.isSome), (0, aO e)]) (fun x => oldL e p S it x.1 x.2.1 ++ fr) (fun x => (∀ r ∈ x.1, r ∈ S.runs) ∧ (∀ r ∈ S.runs, r ∈ x.1 ∨ (0 < r.2.ended → ∃ m, x.2.2 = some m ∧ m.2.ended ≤ r.2.ended)) ∧ ∀ m, x.2.2 = some m → m ∈ S.runs ∧ 0 < m.2.ended) (fun x => x.1.length) (S.runs, none, none) ⟨fun _ h => h, fun _ h => .inl h, fun _ h => by cases h⟩ ⟨rfl, rfl, rfl, rfl, trivial⟩ (cc (.tail .head) (.tail .head) .head) ?_
 rintro ⟨left, cur, o⟩ ⟨hin, hsee, ho⟩
 replace hin : ∀ r ∈ left, r ∈ S.runs := hin
 replace hsee : ∀ r ∈ S.runs, r ∈ left ∨ (0 < r.2.ended → ∃ m, o = some m ∧ m.2.ended ≤ r.2.ended) := hsee
 replace ho : ∀ m, o = some m → m ∈ S.runs ∧ 0 < m.2.ended := ho
 refine At.ent (l' := HP.pure (cZ S) :: cS e (ip S p) S.CH :: cR aY it p.rm (dN S p) (left.map fun r => (r.1, aO (p.fb r.1))) cur :: ek p S.runs :: bP aY p.tm (cx S) :: cF p.w S.now S.sets S.tms :: fr) (Ent.refl _) ?_
 refine At.seq ?_
 by_cases HL : left = []
 ·
  subst HL
  refine At.region ?_
  refine L.op Z (kH Z Z (.tail (.tail .head)) (fun _ => ?_) (fun j q hj => by simp at hj))
  refine L.ex Z Z Z (L.nil (At.then (At.seq (aj Z (At.exit (az (ay (ar (At.then (At.seq (At.region (L.mv Z Z (L.mv Z Z (L.as Z Z (L.as Z Z (L.nil (At.then (At.ret ?_))))))))))))))))))
  exact cU [ap e p S] rfl rfl rfl ⟨⟨o, ⟨ho, fun r hr h => (by rcases hsee r hr with h' | h'; cases h'; exact h' h)⟩, rfl⟩, rfl⟩ ((Ent.ranged.trans (aP (.tail .head) (.tail .head))).trans (Ent.all (m := iL e p S)))
 ·
  refine At.region ?_
  refine L.op Z (kH Z Z (.tail (.tail .head)) (fun h => absurd (List.map_eq_nil_iff.1 h) HL) (fun j q hj => ?_))
  obtain ⟨x, hx, rfl⟩ : ∃ x, left[j]? = some x ∧ (x.1, aO (p.fb x.1)) = q := by
   rw [List.getElem?_map] at hj
   cases hl : left[j]? with
   | none => rw [hl] at hj; cases hj
   | some x => rw [hl] at hj; injection hj with hj; exact ⟨x, rfl, hj⟩
  have hxS := hin x (List.mem_of_getElem? hx)
  have hjl := (List.getElem?_eq_some_iff.1 hx).1
  rw [← fq]
  refine L.ex Z Z Z (L.nil (At.then (At.seq (aQ Z (At.skip (At.then (At.block (At.seq (At.region (L.val Z (nU (p := (x.1, aO (p.fb x.1))) Z) (lb .head) (L.ex Z Z Z (L.ex Z Z Z (L.as Z Z (L.as Z Z (L.nil (At.then (At.seq ?_)))))))))))))))))
  by_cases HA : 0 < x.2.ended
  ·
   by_cases HB : o = none
   ·
    subst HB
    refine Dr.start Z (dP 0 Z Z (ae Z) (dP 1 Z Z (am Z) (dP 2 Z Z (ab (off := 4) Z Z) (dL 3 Z Z (aa (v := .int .u64 x.2.ended) Z Z) (iX (.tail (.tail (.tail .head))) hxS Z) (dP 4 Z Z (cG Z Z (decide_eq_true (by omega))) (dP 5 Z Z (ae Z) (dG 6 Z Z Z Z (ae Z) (dG 7 Z Z Z Z (cg Z Z) (dG 8 Z Z Z Z (ae Z) (dS 9 Z Z Z Z Z Z Z (dS 10 Z Z Z Z Z Z Z (dS 11 Z Z Z Z Z Z Z (dS 12 Z Z Z Z Z Z Z (dS 13 Z Z Z Z Z Z Z (dS 14 Z Z Z Z Z Z Z (dS 15 Z Z Z Z Z Z Z (dS 16 Z Z Z Z Z Z Z (dS 17 Z Z Z Z Z Z Z (dS 18 Z Z Z Z Z Z Z ?_)))))))))))))))))))
    refine dS 19 Z Z Z Z Z Z Z (dS 20 Z Z Z Z Z Z Z (dS 21 Z Z Z Z Z Z Z (dS 22 Z Z Z Z Z Z Z (dG 23 Z Z Z Z (aq Z Z Z) (dP 24 Z Z (aq Z Z Z) (dE (At.then (aQ Z (At.region (L.mv Z Z (L.as Z Z (L.as Z Z (L.nil (an ?_))))))))))))))
    exact At.round (left.eraseIdx j, some (x.1, aO (p.fb x.1)), some x) ⟨fun r hr => hin r ((List.eraseIdx_sublist _ _).subset hr), fun r hr => (by
     rcases hsee r hr with h | h
     · rcases FK.iZ hx h with rfl | h
       · exact .inr fun _ => ⟨r, rfl, Nat.le_refl _⟩
       · exact .inl h
     · exact .inr fun h' => (by obtain ⟨m, hm, _⟩ := h h'; cases hm)), fun m hm => (by injection hm with hm; subst hm; exact ⟨hxS, HA⟩)⟩ (by show (left.eraseIdx j).length < left.length; rw [List.length_eraseIdx, if_pos hjl]; omega) ⟨rfl, rfl, rfl, rfl, trivial⟩ (aP (.tail .head) (.tail .head))
   ·
    obtain ⟨m, rfl⟩ := Option.ne_none_iff_exists'.1 HB
    obtain ⟨hmS, hm0⟩ := ho m rfl
    refine Dr.start Z (dP 0 Z Z (ae Z) (dP 1 Z Z (am Z) (dP 2 Z Z (ab (off := 4) Z Z) (dL 3 Z Z (aa (v := .int .u64 x.2.ended) Z Z) (iX (.tail (.tail (.tail .head))) hxS Z) (dP 4 Z Z (cG Z Z (decide_eq_true (by omega))) (dP 5 Z Z (ae Z) (dG 6 Z Z Z Z (ae Z) (dG 7 Z Z Z Z (cg Z Z) (dG 8 Z Z Z Z (ae Z) (dG 9 Z Z Z Z (ae Z) (dG 10 Z Z Z Z (am Z) (dG 11 Z Z Z Z (ab (off := 4) Z Z) (dH 12 Z Z Z Z (aa (v := .int .u64 x.2.ended) Z Z) (iX (.tail (.tail (.tail .head))) hxS Z) (dG 13 Z Z Z Z (ae Z) (dG 14 Z Z Z Z (am Z) (dG 15 Z Z Z Z (ab (off := 1) Z Z) ?_))))))))))))))))
    refine dH 16 Z Z Z Z (aa (v := .map (some p.rm)) Z Z) (yD fun _ _ _ => rfl) ?_
    refine dG 17 Z Z Z Z (ae Z) (dH 18 Z Z Z Z (eN (a := m.1) (v := aO (p.fb m.1)) Z dV Z Z (yT hmS)) (yW .head) (dG 19 Z Z Z Z (am Z) (dG 20 Z Z Z Z (ab (off := 4) Z Z) (dH 21 Z Z Z Z (aa (v := .int .u64 m.2.ended) Z Z) (iX (.tail (.tail (.tail .head))) hmS Z) (dG 22 Z Z Z Z (bl Z Z Z) (dG 23 Z Z Z Z (aq Z Z Z) (dP 24 Z Z (aq Z Z Z) (dE (At.then ?_)))))))))
    refine aE Z (fun c40 => ?_) (fun c40 => ?_)
    ·
     refine At.region (L.mv Z Z (L.as Z Z (L.as Z Z (L.nil (an ?_)))))
     have c40' : x.2.ended < m.2.ended := by omega
     exact At.round (left.eraseIdx j, some (x.1, aO (p.fb x.1)), some x) ⟨fun r hr => hin r ((List.eraseIdx_sublist _ _).subset hr), fun r hr => (by
      rcases hsee r hr with h | h
      · rcases FK.iZ hx h with rfl | h
        · exact .inr fun _ => ⟨r, rfl, Nat.le_refl _⟩
        · exact .inl h
      · exact .inr fun h' => (by obtain ⟨m', hm, hle⟩ := h h'; injection hm with hm; subst hm; exact ⟨x, rfl, by omega⟩)), fun m hm => (by injection hm with hm; subst hm; exact ⟨hxS, HA⟩)⟩ (by show (left.eraseIdx j).length < left.length; rw [List.length_eraseIdx, if_pos hjl]; omega) ⟨rfl, rfl, rfl, rfl, trivial⟩ (aP (.tail .head) (.tail .head))
    ·
     refine At.skip (an ?_)
     have c40' : ¬ x.2.ended < m.2.ended := by omega
     exact At.round (left.eraseIdx j, some (x.1, aO (p.fb x.1)), some m) ⟨fun r hr => hin r ((List.eraseIdx_sublist _ _).subset hr), fun r hr => (by
      rcases hsee r hr with h | h
      · rcases FK.iZ hx h with rfl | h
        · exact .inr fun _ => ⟨m, rfl, by omega⟩
        · exact .inl h
      · exact .inr h), fun m' hm => ho m' hm⟩ (by show (left.eraseIdx j).length < left.length; rw [List.length_eraseIdx, if_pos hjl]; omega) ⟨rfl, rfl, rfl, rfl, trivial⟩ (aP (.tail .head) (.tail .head))
  ·
   refine Dr.start Z (dP 0 Z Z (ae Z) (dP 1 Z Z (am Z) (dP 2 Z Z (ab (off := 4) Z Z) (dL 3 Z Z (aa (v := .int .u64 x.2.ended) Z Z) (iX (.tail (.tail (.tail .head))) hxS Z) (dP 4 Z Z (cG Z Z (decide_eq_false (by omega))) (dP 5 Z Z (ae Z) (dS 6 Z Z Z Z Z Z Z (dS 7 Z Z Z Z Z Z Z (dS 8 Z Z Z Z Z Z Z (dS 9 Z Z Z Z Z Z Z (dS 10 Z Z Z Z Z Z Z (dS 11 Z Z Z Z Z Z Z (dS 12 Z Z Z Z Z Z Z (dS 13 Z Z Z Z Z Z Z (dS 14 Z Z Z Z Z Z Z (dS 15 Z Z Z Z Z Z Z (dS 16 Z Z Z Z Z Z Z (dS 17 Z Z Z Z Z Z Z (dS 18 Z Z Z Z Z Z Z ?_)))))))))))))))))))
   refine dS 19 Z Z Z Z Z Z Z (dS 20 Z Z Z Z Z Z Z (dS 21 Z Z Z Z Z Z Z (dS 22 Z Z Z Z Z Z Z (dS 23 Z Z Z Z Z Z Z (dP 24 Z Z (aq Z Z Z) (dE (At.then (aj Z (At.skip (an ?_))))))))))
   exact At.round (left.eraseIdx j, some (x.1, aO (p.fb x.1)), o) ⟨fun r hr => hin r ((List.eraseIdx_sublist _ _).subset hr), fun r hr => (by
    rcases hsee r hr with h | h
    · rcases FK.iZ hx h with rfl | h
      · exact .inr fun h => absurd h HA
      · exact .inl h
    · exact .inr h), ho⟩ (by show (left.eraseIdx j).length < left.length; rw [List.length_eraseIdx, if_pos hjl]; omega) ⟨rfl, rfl, rfl, rfl, trivial⟩ (aP (.tail .head) (.tail .head))
theorem wF {e : Nat} {p : EA} {S : FK.En} : Does Tryz.prog G 94 [aO e].toArray [ap e p S] fun v m => v = .bool (S.runs.any (fun r => decide (0 < r.2.ended)) || decide (S.runs.length < 6)) ∧ m = [ap e p S] := by
 refine Does.body Tryz.func94 Z Z fun E fr hE => ?_
 refine ai (At.seq (At.region (L.as Z Z (L.nil (At.then (At.seq (At.region (L.mv Z Z ?_))))))))
 refine L.op Z (ah Z Z Z hE mB (Ent.refl _) ?_)
 rintro v m ⟨⟨o, ho, rfl⟩, rfl⟩
 refine ai (L.mv Z Z (L.ex Z Z Z (L.ex Z Z Z (L.as Z Z (L.as Z Z (L.nil (At.then (At.seq ?_))))))))
 by_cases HO : o = none
 ·
  subst HO
  have hany : (S.runs.any fun r => decide (0 < r.2.ended)) = false := by
   rw [List.any_eq_false]
   intro r hr
   simp only [decide_eq_true_eq]
   intro h
   obtain ⟨m, hm, _⟩ := ho.2 r hr h
   cases hm
  refine At.region (L.mv Z Z (L.mv Z Z (lT Z Z Z (ae Z) (lT Z Z Z (am Z) (lT Z Z Z (ab (off := 1) Z Z) ?_)))))
  refine lA Z Z Z (aa (v := .map (some p.rm)) Z Z) (aU fun _ _ _ => rfl) ?_
  refine L.on Z Z Z (qo Z (vO (m := dN S p) Z Z) dp ?_)
  refine lT Z Z Z (bl (r := decide (S.runs.length < 6)) Z Z (by rw [List.length_map]; exact decide_eq_decide.2 (by omega))) ?_
  refine L.pure Z (aq Z Z Z) (L.as Z Z (L.nil (At.then (At.ret ?_))))
  exact aA [ap e p S] rfl Z ⟨by rw [hany]; rfl, rfl⟩ (Ent.refl _)
 ·
  obtain ⟨x, rfl⟩ := Option.ne_none_iff_exists'.1 HO
  obtain ⟨hx, hx0⟩ := ho.1 x rfl
  have hany : (S.runs.any fun r => decide (0 < r.2.ended)) = true := by
   rw [List.any_eq_true]
   exact ⟨x, hx, by simpa using hx0⟩
  refine At.region (L.mv Z Z (L.mv Z Z (L.off Z Z Z Z Z Z (L.off Z Z Z Z Z Z (L.off Z Z Z Z Z Z (L.off Z Z Z Z Z Z (L.off Z Z Z Z Z Z (L.off Z Z Z Z Z Z (L.pure Z (aq Z Z Z) (L.as Z Z (L.nil (At.then (At.ret ?_)))))))))))))
  exact aA [ap e p S] rfl Z ⟨by rw [hany]; rfl, rfl⟩ (Ent.refl _)
end Go.Proofs.YtmeegfamopaljaaGreatDoor

namespace Go.Proofs.YtmeegfamopaljaaGreatDoor
open Go Go.RowKit Go.SL
open FK (dQ ck bM)
variable {G : Env → Prop}
theorem uf (S : FK.En) (p : EA) (id : Nat) : (dN S p).eraseP (·.1 == id) = dN (S.unrun id) p := by
 unfold dN FK.En.unrun
 rw [List.eraseP_map]
 rfl
theorem Ent.sub : ∀ {a b : List HP} {r : List HP}, b.Sublist a → Ent (a ++ r) (b ++ r)
 | _, _, _, .slnil => Ent.refl _
 | _ :: _, _, _, .cons _ h => Ent.drop.trans (Ent.sub h)
 | _ :: _, _, _, .cons_cons _ h => Ent.cons (Ent.sub h)
theorem wC {p : EA} {L M : List (Nat × FK.Rn)} {r : List HP} (h : M.Sublist L) : Ent (ek p L :: r) (ek p M :: r) :=
 (Ent.unall (m := eV p L)).trans ((Ent.sub (h.map _)).trans (Ent.all (m := eV p M)))
section
variable {P : Program} {E : Env} {n : Nat} {D : List Deferred} {ts : List (Nat × Value)} {l r : List HP} {Q : Exit → Act → World → Prop} {ty : TypeId} {pos : String} {af : Array Edge} {g : Option (Nat × Bool)} {t : TypeId} {x y z : Operand} {e : Nat} {p : EA} {S : FK.En} {K : Act → World → Prop}
theorem y9 [H : HasEng l e p S r] {id : Nat} {t kt et : TypeId} {d : Option Tmp} (hd : d = none) (ht : P.underlying t = some (.map kt et)) (hk : KeyK P kt Nat aY) (hx : ev ts x = some (.map (some p.rm))) (hy : ev ts y = some (aY id))
 (h : At E n D ts (ap e p (S.unrun id) :: r) K) : At E n D ts l (fun ac w => (Oper.mk d (.call { callee := .builtin .delete, args := #[x, y], argTypes := #[t, kt] }) ty pos af g).wp P ac w K Q) := by
 refine eP (p := cZ S) (fun w hw => kK hw) fun hn => ?_
 refine At.ent (Ent.sel H.sel) (bq ?_)
 show At E n D ts (HP.pure (cZ S) :: cS e (ip S p) S.CH :: bP aY p.rm (dN S p) :: ek p S.runs :: bP aY p.tm (cx S) :: cF p.w S.now S.sets S.tms :: r) _
 refine qh (b := p.rm) (a := id) hd ht hk hx hy (.tail (.tail .head)) ?_
 rw [uf]
 refine At.ent ?_ h
 refine Ent.trans ?_ (Ent.all (m := iL e p (S.unrun id)))
 have hn' : cZ (S.unrun id) := hn.sublist ((List.eraseP_sublist).map _)
 refine (Ent.drop1 (.tail .head)).trans ((Ent.sel (.tail .head)).trans ((Ent.cons (Ent.cons (wC (M := (S.unrun id).runs) List.eraseP_sublist))).trans ?_))
 exact Ent.pure hn'
def EA.add (p : EA) (id b : Nat) (a : RA) : EA := { p with fb := dQ p.fb id b, ra := dQ p.ra id a }
theorem zd {id b : Nat} {a : RA} {R : FK.Rn} {t kt et : TypeId} {d : Option Tmp} (hd : d = none) (ht : P.underlying t = some (.map kt et)) (hk : KeyK P kt Nat aY) (hx : ev ts x = some (.map (some p.rm))) (hy : ev ts y = some (aY id)) (hz : ev ts z = some (aO b)) (hn : ∀ r ∈ S.runs, r.1 ≠ id)
 (h : At E n D ts (ap e (p.add id b a) { S with runs := S.runs ++ [(id, R)] } :: r) K) : At E n D ts (iC b a R :: ap e p S :: r) (fun ac w => (Oper.mk d (.mapUpdate t x y z) ty pos af g).wp P ac w K Q) := by
 refine eP (p := cZ S) (fun w hw => kK (l := iC b a R :: ap e p S :: r) hw) fun hok => ?_
 refine At.ent (Ent.sel (.tail .head)) (bq ?_)
 show At E n D ts (HP.pure (cZ S) :: cS e (ip S p) S.CH :: bP aY p.rm (dN S p) :: ek p S.runs :: bP aY p.tm (cx S) :: cF p.w S.now S.sets S.tms :: iC b a R :: r) _
 have hv : cI (dN S p) id = none := by
  refine wB ?_
  unfold FK.En.getR
  cases hf : S.runs.find? (·.1 == id) with
  | none => rfl
  | some u => exact absurd (by simpa using List.find?_some hf) (hn u (List.mem_of_find?_eq_some hf))
 refine qg (b := p.rm) (a := id) (v := aO b) hd ht hk hx hy hz (.tail (.tail .head)) hv ?_
 refine At.ent ?_ h
 have hM : dN S p ++ [(id, aO b)] = dN { S with runs := S.runs ++ [(id, R)] } (p.add id b a) := by
  unfold dN
  rw [List.map_append]
  have h1 : (S.runs.map fun r => (r.1, aO (p.fb r.1))) = S.runs.map fun r => (r.1, aO ((p.add id b a).fb r.1)) := List.map_congr_left fun r hr => by
   show _ = (r.1, aO (dQ p.fb id b r.1))
   rw [bM _ _ (hn r hr)]
  rw [h1]
  show _ = _ ++ [(id, aO (dQ p.fb id b id))]
  rw [ck]
 have hL : eV p S.runs ++ [iC b a R] = eV (p.add id b a) (S.runs ++ [(id, R)]) := by
  unfold eV
  rw [List.map_append]
  have h1 : (S.runs.map fun r => iC (p.fb r.1) (p.ra r.1) r.2) = S.runs.map fun r => iC ((p.add id b a).fb r.1) ((p.add id b a).ra r.1) r.2 := List.map_congr_left fun r hr => by
   show _ = iC (dQ p.fb id b r.1) (dQ p.ra id a r.1) r.2
   rw [bM _ _ (hn r hr), bM _ _ (hn r hr)]
  rw [h1]
  show _ = _ ++ [iC (dQ p.fb id b id) (dQ p.ra id a id) R]
  rw [ck, ck]
 have hok' : cZ { S with runs := S.runs ++ [(id, R)] } := by
  unfold cZ
  rw [List.map_append, List.nodup_append]
  refine ⟨hok, by simp, fun u hu v hv => ?_⟩
  obtain ⟨r, hr, rfl⟩ := List.mem_map.1 hu
  simp at hv
  subst hv
  exact hn r hr
 rw [hM]
 refine Ent.trans ?_ (Ent.all (m := iL e (p.add id b a) { S with runs := S.runs ++ [(id, R)] }))
 have hX : Ent (iC b a R :: ek p S.runs :: bP aY p.tm (cx S) :: cF p.w S.now S.sets S.tms :: r) (ek (p.add id b a) (S.runs ++ [(id, R)]) :: bP aY p.tm (cx S) :: cF p.w S.now S.sets S.tms :: r) := by
  refine (Ent.cons (Ent.unall (m := eV p S.runs))).trans ?_
  have hp : (iC b a R :: (eV p S.runs ++ (bP aY p.tm (cx S) :: cF p.w S.now S.sets S.tms :: r))).Perm (eV (p.add id b a) (S.runs ++ [(id, R)]) ++ (bP aY p.tm (cx S) :: cF p.w S.now S.sets S.tms :: r)) := by
   rw [← hL, List.append_assoc]
   exact List.perm_middle.symm
  exact (Ent.perm hp).trans (Ent.all (m := eV (p.add id b a) (S.runs ++ [(id, R)])))
 refine (Ent.drop1 (.tail .head)).trans ?_
 refine (cc (.tail .head) .head (.tail (.tail (.tail .head)))).trans ?_
 exact (Ent.pure hok').trans (Ent.cons (Ent.cons (Ent.cons hX)))
end
end Go.Proofs.YtmeegfamopaljaaGreatDoor

set_option maxRecDepth 10000
namespace Go.Proofs.YtmeegfamopaljaaGreatDoor
open Go Go.RowKit Go.SL
variable {G : Env → Prop}
def p0 (rm tm w : Nat) : EA := ⟨rm, tm, w, fun _ => 0, fun _ => ⟨0, 0, 0, 0, []⟩⟩
theorem ring0 : FK.RingOk 0 0 [] (fun _ => ⟨0, 0, 0⟩) := ⟨Nat.le_refl _, Nat.zero_le _, .inr ⟨rfl, rfl⟩, fun k p h => by simp at h⟩
theorem vE : Does Tryz.prog G 106 [].toArray [] fun v m => ∃ e p, v = aO e ∧ m = [ap e p FK.En.fresh] := by
 refine Does.body Tryz.func106 Z Z fun E fr hE => ?_
 refine aL (At.seq (At.region (L.as Z Z (L.nil (At.then (At.seq (At.region (L.op Z (fZ aY Z fun rm => (L.op Z (fZ aY Z fun tm => ?_)))))))))))
 refine L.op Z (ah Z Z Z hE (zf 0) (Ent.refl _) ?_)
 rintro v m ⟨w, rfl, rfl⟩
 refine ai (L.pure Z (bn (cs := qb ⟨0, rm, tm, w, 0, 0, 0⟩ (.slice none 0 0) 0 0) Z Z Z Z Z) (L.op Z (cb Z Z fun e => (L.as Z Z (L.nil (At.then (At.ret (aA [ap e (p0 rm tm w) FK.En.fresh] rfl Z ⟨e, p0 rm tm w, rfl, rfl⟩ ?_))))))))
 have hw : Ent (bD w (xR 0) :: fr) (cF w 0 0 [] :: fr) := (Ent.pure (⟨rfl, Nat.le_refl _, inv0 (by omega), rfl⟩ : WOk 0 0 [] (xR 0))).trans ((Ent.all (m := [HP.pure (WOk 0 0 [] (xR 0)), bD w (xR 0)])).trans (Ent.ex (f := fun W : FK.WS => HP.all [HP.pure (WOk 0 0 [] W), bD w W]) (xR 0)))
 refine (cc .head (.tail (.tail .head)) (.tail .head)).trans ?_
 refine Ent.trans (b := kZ e ⟨0, rm, tm, w, 0, 0, 0⟩ (.slice none 0 0) 0 0 :: bP aY rm [] :: bP aY tm [] :: cF w 0 0 [] :: fr) (Ent.cons (Ent.cons (Ent.cons hw))) ?_
 refine Ent.trans (Ent.cons (Ent.row0 (e := 268) (size := 3))) ?_
 refine (fc (e := e) (C := ⟨0, rm, tm, w, 0, 0, 0⟩) (q := []) (N := 0) (f := 0) (rg := fun _ => ⟨0, 0, 0⟩) ring0).trans ?_
 refine Ent.trans (b := cS e ⟨0, rm, tm, w, 0, 0, 0⟩ [] :: bP aY rm [] :: ek (p0 rm tm w) [] :: bP aY tm [] :: cF w 0 0 [] :: fr) (Ent.cons (Ent.cons (Ent.all (m := [])))) ?_
 exact (Ent.pure (show cZ FK.En.fresh from List.nodup_nil)).trans (Ent.all (m := iL e (p0 rm tm w) FK.En.fresh))
theorem zV {S T : FK.En} (h : FK.rh S T) : T.now = S.now ∧ T.seed = S.seed ∧ T.tms = S.tms ∧ T.sets = S.sets ∧ T.CH = S.CH ∧ T.CD = S.CD ∧ T.runs.Sublist S.runs := by
 unfold FK.rh at h
 split at h
 · obtain ⟨o, _, rfl⟩ := h
   cases o with
   | none => exact ⟨rfl, rfl, rfl, rfl, rfl, rfl, List.Sublist.refl _⟩
   | some m => exact ⟨rfl, rfl, rfl, rfl, rfl, rfl, List.eraseP_sublist⟩
 · subst h; exact ⟨rfl, rfl, rfl, rfl, rfl, rfl, List.Sublist.refl _⟩
def fR (n k : Nat) : List FK.Sp := List.replicate k FK.s1 ++ List.replicate (n - k) FK.s0
theorem t7 {n k : Nat} (h : k ≤ n) : (fR n k).length = n := by simp [fR]; omega
theorem ww {n k : Nat} (h : k < n) : (fR n k)[k]? = some FK.s0 := by
 unfold fR
 rw [List.getElem?_append_right (by simp), List.length_replicate, Nat.sub_self, List.getElem?_replicate, if_pos (by omega)]
theorem t6 {n k : Nat} (h : k < n) : (fR n k).set k FK.s1 = fR n (k + 1) := by
 unfold fR
 rw [List.set_append_right _ _ (by simp), List.length_replicate, Nat.sub_self]
 obtain ⟨m, hm⟩ : ∃ m, n - k = m + 1 := ⟨n - k - 1, by omega⟩
 rw [hm, List.replicate_succ, List.set_cons_zero, show n - (k + 1) = m by omega, List.replicate_succ', List.append_assoc]
 rfl
theorem yO (n : Nat) : ((List.range n).flatMap fun _ => p8 FK.s0) = p7 (fR n 0) := by
 unfold p7 fR
 rw [List.flatMap_def, List.flatMap_def]
 congr 1
 simp only [List.replicate_zero, List.nil_append, Nat.sub_zero, List.map_replicate]
 apply List.ext_getElem <;> simp
set_option maxHeartbeats 2000000 in
theorem my {e : Nat} {p : EA} {S : FK.En} {fl : FK.Flow} {nv : Value} (hn1 : 1 ≤ fl.CG.length) (hn2 : fl.CG.length ≤ 100) (hfit : wd fl) (hd0 : 0 ≤ fl.deadline) (hd : fl.deadline ≤ 4611686018427387904) (hnow : S.now ≤ 4611686018427387904) (hq : S.CH.length ≤ 300) (hl : S.tms.length ≤ 99998) (hsets : S.sets < 9223372036854775807) (hids : ∀ r ∈ S.runs, r.1 ≤ S.CD) (hlr : S.CD < 9223372036854775807) :
 Does Tryz.prog G 97 [aO e, .agg #[.int .i64 fl.deadline, nv]].toArray [ap e p S, nodesOwn nv fl.CG] fun v m => ∃ S0 p', FK.rh S S0 ∧ v = aY (S.CD + 1) ∧ m = [ap e p' (S0.submit fl)] := by
 have hlat : ∀ (T : FK.En) n, T.now ≤ 4611686018427387904 → T.now ≤ T.later n := fun T n h => by unfold FK.En.later; omega
 have hlat2 : ∀ (T : FK.En) n, T.later n ≤ 4611686018427387904 := fun T n => by unfold FK.En.later; omega
 refine Does.body Tryz.func97 Z Z fun E fr hE => ?_
 refine aJ (gL (.tail .head) fun vs hvs => (aC .head ?_))
 rintro A c rfl a1 a2 a3 a4 _
 obtain ⟨gn, rfl⟩ : ∃ g, A = some ⟨g, 0, none⟩ := by
  cases A with
  | none => have := (a1 rfl).1; omega
  | some ad => obtain ⟨g, rfl⟩ := a2 ad rfl; exact ⟨g, rfl⟩
 refine At.ent (Ent.cons (Ent.all (m := bf vs fl.CG))) ?_
 refine At.ent (l' := row 46 7 (.slice (some ⟨gn, 0, none⟩) fl.CG.length c) fl.CG.length (aZ fl.CG vs) :: dY vs fl.CG :: ap e p S :: fr) (Ent.refl _) ?_
 refine At.seq (At.region (L.op Z (cb Z Z fun b3 => (L.as Z Z (L.nil (At.then ?_))))))
 refine At.seq (At.cut (X := FK.En) (fun _ => [(0, aO e), (3, aO b3)]) (fun T => ap e p T :: blk b3 29 #[.int .i64 fl.deadline, .slice (some ⟨gn, 0, none⟩) fl.CG.length c] :: row 46 7 (.slice (some ⟨gn, 0, none⟩) fl.CG.length c) fl.CG.length (aZ fl.CG vs) :: dY vs fl.CG :: fr) (fun T => FK.rh S T) ?_ ?_)
 ·
  refine At.seq (At.region (L.mv Z Z (aR Z Z (aI 1 Z Z Z ?_))))
  refine L.val Z (aa (v := .map (some p.rm)) Z Z) (aU fun _ _ _ => rfl) ?_
  refine L.val Z (vO (m := dN S p) Z Z) dp ?_
  refine L.pure Z (aH (r := decide (S.runs.length = 6)) Z Z (by rw [List.length_map]; exact decide_eq_decide.2 (by omega))) ?_
  refine L.nil (At.then ?_)
  refine aE Z (fun c14 => ?_) (fun c14 => ?_)
  ·
   refine At.seq (At.region (L.mv Z Z ?_))
   refine L.op Z (ah Z Z Z hE mB (Ent.sel (.tail (.tail (.tail (.head))))) ?_)
   rintro v m ⟨⟨o, ho, rfl⟩, rfl⟩
   refine ai (L.mv Z Z (L.ex Z Z Z (L.ex Z Z Z (L.as Z Z (L.as Z Z (L.nil (At.then (At.seq ?_))))))))
   by_cases HO : o = none
   ·
    subst HO
    refine At.region (L.mv Z Z (L.nil (At.then (aj Z (At.skip ?_)))))
    exact bb S (by unfold FK.rh; rw [if_pos c14]; exact ⟨none, ho, rfl⟩) ⟨rfl, rfl, trivial⟩ (Ent.refl _)
   ·
    obtain ⟨x, rfl⟩ := Option.ne_none_iff_exists'.1 HO
    refine At.region (L.mv Z Z (L.nil (At.then (aQ Z (At.region (L.mv Z Z (aR Z Z (aI 1 Z Z Z ?_))))))))
    refine L.val Z (aa (v := .map (some p.rm)) Z Z) (aU fun _ _ _ => rfl) ?_
    refine L.mv Z Z (L.op Z (y9 (id := x.1) Z Z dV Z Z (L.nil ?_)))
    exact bb (S.unrun x.1) (by unfold FK.rh; rw [if_pos c14]; exact ⟨some x, ho, rfl⟩) ⟨rfl, rfl, trivial⟩ (Ent.refl _)
  ·
   refine At.skip ?_
   exact bb S (by unfold FK.rh; rw [if_neg c14]) ⟨rfl, rfl, trivial⟩ (Ent.sel (.tail (.tail (.tail .head))))
 intro T hT
 obtain ⟨k1, k2, k3, k4, k5, k6, k7⟩ := zV hT
 have hidT : ∀ r ∈ T.runs, r.1 ≤ T.CD := fun r hr => by rw [k6]; exact hids r (k7.subset hr)
 refine At.ent (l' := ap e p T :: blk b3 29 #[.int .i64 fl.deadline, .slice (some ⟨gn, 0, none⟩) fl.CG.length c] :: row 46 7 (.slice (some ⟨gn, 0, none⟩) fl.CG.length c) fl.CG.length (aZ fl.CG vs) :: dY vs fl.CG :: fr) (Ent.refl _) ?_
 refine At.seq (At.region (L.mv Z Z (aR Z Z (aI 7 Z Z Z ?_))))
 refine L.val Z (aa (v := .int .u64 T.CD) Z Z) (aU fun _ _ _ => rfl) ?_
 refine L.pure Z (aS (r := ((T.CD + 1 : Nat) : Int)) Z Z (by rw [kE]; omega)) (aR Z Z (aI 7 Z Z Z ?_))
 refine L.op Z (m7 (S := T) (S' := { T with CD := T.CD + 1 }) Z Z Z (by omega) Z (fun _ _ _ => rfl) Z Z Z Z Z Z ?_)
 refine L.nil (At.then (At.seq (Dr.start Z (dL 0 Z Z (ao (vs := [.int .i64 fl.deadline, .slice (some ⟨gn, 0, none⟩) fl.CG.length c]) Z Z Z Z) (aw Z) (dP 1 Z Z (ab (off := 1) Z Z) (dL 2 Z Z (aa Z Z) (ag Z) (dP 3 Z Z (aM Z Z) ?_)))))))
 refine dR 4 Z Z (vD (zc := p8 FK.s0) Z Z Cs Z Z (by omega) Z (by omega) (by omega) fun gs => ?_)
 refine dK [true, true] (Kept.cons (ag Z) (Kept.cons (aw Z) Kept.nil)) (dP 5 Z Z (bn (cs := #[.int .i64 fl.deadline, .slice (some ⟨gn, 0, none⟩) fl.CG.length c, .int .i64 1, .slice (some ⟨gs, 0, none⟩) fl.CG.length fl.CG.length, .int .u64 0]) Z Z Z Z Z) (dR 6 Z Z (cb Z Z fun rb => (dK [true, true] (Kept.cons (ag Z) (Kept.cons (aw Z) Kept.nil)) (dP 7 Z Z (ax Z) (dE (At.then (At.seq (At.seq ?_)))))))))
 refine At.ent (l' := row 265 3 (.slice (some ⟨gs, 0, none⟩) fl.CG.length fl.CG.length) fl.CG.length (p7 (fR fl.CG.length 0)) :: blk rb 263 #[.int .i64 fl.deadline, .slice (some ⟨gn, 0, none⟩) fl.CG.length c, .int .i64 1, .slice (some ⟨gs, 0, none⟩) fl.CG.length fl.CG.length, .int .u64 0] :: ap e p { T with CD := T.CD + 1 } :: blk b3 29 #[.int .i64 fl.deadline, .slice (some ⟨gn, 0, none⟩) fl.CG.length c] :: row 46 7 (.slice (some ⟨gn, 0, none⟩) fl.CG.length c) fl.CG.length (aZ fl.CG vs) :: dY vs fl.CG :: fr) ?_ ?_
 · refine (Ent.sel (.tail .head)).trans (cC (Nat.le_refl _) (show fl.CG.length ≤ 9223372036854775807 by omega) (by rw [List.size_toArray, ee (k := 3) (fun _ => rfl), List.length_range]) ?_)
   rw [List.toList_toArray, yO, List.take_of_length_le (by rw [k9, t7 (Nat.zero_le _)]; omega)]
 refine At.region (L.mv Z Z (aR Z Z (aI 3 Z Z Z (bd Z Z Z Z (L.pure Z (aM Z Z) (L.mv Z Z (L.nil (At.then (At.block ?_)))))))))
 refine bk (X := Nat) (fun k => [(45, .int .i64 k), (44, .int .i64 fl.CG.length), (7, aO rb), (0, aO e), (3, aO b3)]) (fun k => row 265 3 (.slice (some ⟨gs, 0, none⟩) fl.CG.length fl.CG.length) fl.CG.length (p7 (fR fl.CG.length k)) :: blk rb 263 #[.int .i64 fl.deadline, .slice (some ⟨gn, 0, none⟩) fl.CG.length c, .int .i64 1, .slice (some ⟨gs, 0, none⟩) fl.CG.length fl.CG.length, .int .u64 0] :: ap e p { T with CD := T.CD + 1 } :: blk b3 29 #[.int .i64 fl.deadline, .slice (some ⟨gn, 0, none⟩) fl.CG.length c] :: row 46 7 (.slice (some ⟨gn, 0, none⟩) fl.CG.length c) fl.CG.length (aZ fl.CG vs) :: dY vs fl.CG :: fr) (fun k => k ≤ fl.CG.length) (fun k => fl.CG.length - k) 0 (Nat.zero_le _) ⟨rfl, rfl, rfl, rfl, rfl, trivial⟩ (Ent.refl _) ?_
 intro k hk
 refine At.seq (At.region (L.pure Z (bl Z Z Z) (L.nil (At.then (At.seq ?_)))))
 refine aE Z (fun c46 => ?_) (fun c46 => ?_)
 ·
  have hlt : k < fl.CG.length := by omega
  refine At.skip (At.then (At.seq (At.block (At.seq (At.region (L.mv Z Z (L.as Z Z (L.nil (At.then (At.region (L.mv Z Z (aR Z Z (aI 3 Z Z Z (bd Z Z Z Z (L.mv Z Z (L.pure Z (aT (z := 3) Z Z Z Z hlt) (aI 0 Z Z Z ?_)))))))))))))))))
  refine L.op Z (dZ .head Z Z Z Z (by omega) ?_)
  rw [show 0 + k * 3 + 0 = 0 + k * 3 + 0 from rfl, nH (j := 0) (s' := FK.s1) (ww hlt) (by omega) rfl, t6 hlt]
  refine L.nil (an (At.then (At.region (L.pure Z (aS (r := ((k + 1 : Nat) : Int)) Z Z (by rw [dd (by omega)]; omega)) (L.mv Z Z (L.nil ?_))))))
  exact At.round (k + 1) hlt (by omega) ⟨rfl, rfl, rfl, rfl, rfl, trivial⟩ (Ent.refl _)
 ·
  have hke : k = fl.CG.length := by omega
  subst hke
  have hst : fR fl.CG.length fl.CG.length = (FK.Rn.begun fl).CF := by unfold fR FK.Rn.begun; simp
  rw [hst]
  refine At.exit (az (ay (ar (At.then (At.seq ?_)))))
  have hnl : (FK.Rn.begun fl).CF.length = fl.CG.length := by unfold FK.Rn.begun; simp
  refine At.ent (l' := iC rb ⟨gn, c, gs, fl.CG.length, vs⟩ (FK.Rn.begun fl) :: ap e p { T with CD := T.CD + 1 } :: blk b3 29 #[.int .i64 fl.deadline, .slice (some ⟨gn, 0, none⟩) fl.CG.length c] :: fr) ?_ ?_
  · refine Ent.trans ?_ (Ent.all (m := lS rb ⟨gn, c, gs, fl.CG.length, vs⟩ (FK.Rn.begun fl)))
    unfold lS RA.sv RA.nv tH tG RA.sv RA.nv
    rw [hnl]
    refine (cc (.tail .head) (.tail (.tail (.tail .head))) (.tail (.tail (.tail .head)))).trans ?_
    exact Ent.pure hvs
  refine Dr.start Z (dP 0 Z Z (ae Z) (dP 1 Z Z (am Z) (dP 2 Z Z (ab (off := 1) Z Z) ?_)))
  refine dL 3 Z Z (aa Z Z) (aU fun _ _ _ => rfl) ?_
  refine dP 4 Z Z (ae Z) (dP 5 Z Z (am Z) (dP 6 Z Z (ab (off := 7) Z Z) ?_))
  refine dL 7 Z Z (aa Z Z) (aU fun _ _ _ => rfl) ?_
  refine dP 8 Z Z (ae Z) ?_
  refine dR 9 Z Z (zd (id := T.CD + 1) (b := rb) (a := ⟨gn, c, gs, fl.CG.length, vs⟩) (R := FK.Rn.begun fl) Z Z dV Z Z Z (fun r hr => by have := hidT r hr; omega) ?_)
  refine dK [false, false] Kept.nil (dE (At.then (At.seq ?_)))
  obtain ⟨p', hp'⟩ : ∃ p', p' = p.add (T.CD + 1) rb ⟨gn, c, gs, fl.CG.length, vs⟩ := ⟨_, rfl⟩
  rw [← hp']
  refine At.ent (l' := ap e p' (T.begin fl) :: blk b3 29 #[.int .i64 fl.deadline, .slice (some ⟨gn, 0, none⟩) fl.CG.length c] :: fr) (Ent.refl _) ?_
  have hB1 : (T.begin fl).now = S.now := k1
  have hB2 : (T.begin fl).sets = S.sets := k4
  have hB3 : (T.begin fl).tms = S.tms := k3
  refine Dr.start Z (dP 0 Z Z (ae Z) (dP 1 Z Z (am Z) (dP 2 Z Z (ab (off := 6) Z Z) ?_)))
  refine dL 3 Z Z (aa Z Z) (aU fun _ _ _ => rfl) ?_
  refine dP 4 Z Z (ae Z) (dP 5 Z Z (am Z) (dP 6 Z Z (ab (off := 7) Z Z) ?_))
  refine dL 7 Z Z (aa Z Z) (aU fun _ _ _ => rfl) ?_
  refine dP 8 Z Z (bn (cs := #[.int .u64 ((T.CD + 1 : Nat) : Int), .int .i64 (-1), .int .i64 0]) Z Z Z Z Z) (dP 9 Z Z (ae Z) (dP 10 Z Z (ab (off := 0) Z Z) (dL 11 Z Z (aa Z Z) (ag Z) ?_)))
  refine dR 12 Z Z (ah Z Z Z hE (jt (S := T.begin fl) fl.deadline (by omega) hd0 hd) (Ent.refl _) ?_)
  rintro v m ⟨rfl, rfl⟩
  refine ai ?_
  refine dK [false, true, true] (Kept.cons (aU fun _ _ _ => rfl) (Kept.cons (aU fun _ _ _ => rfl) Kept.nil)) ?_
  refine dR 13 Z Z (ah Z Z Z hE (m4 (S := T.begin fl) ⟨T.CD + 1, -1, 0⟩ ((T.begin fl).later fl.deadline.toNat) (hlat _ _ (by omega)) (hlat2 _ _) (by omega) (by rw [hB3]; omega)) (Ent.refl _) ?_)
  rintro v m ⟨rfl, rfl⟩
  refine ai ?_
  refine dK [true, false] (Kept.cons (aU (S := (T.begin fl).setT ⟨T.CD + 1, -1, 0⟩ ((T.begin fl).later fl.deadline.toNat)) fun _ _ _ => rfl) Kept.nil) ?_
  refine dE (At.then (At.seq ?_))
  obtain ⟨U, hU⟩ : ∃ U, U = (T.begin fl).setT ⟨T.CD + 1, -1, 0⟩ ((T.begin fl).later fl.deadline.toNat) := ⟨_, rfl⟩
  rw [← hU]
  have hU1 : U.getR (T.CD + 1) = some (FK.Rn.begun fl) := by rw [hU]; exact FK.oC hidT
  have hU2 : U.CD = T.CD + 1 := by rw [hU]; rfl
  have hU3 : U.CH = S.CH := by rw [hU]; exact k5
  refine At.region (L.mv Z Z (L.mv Z Z (aR Z Z (aI 7 Z Z Z ?_))))
  refine L.val Z (aa (v := .int .u64 ((T.CD + 1 : Nat) : Int)) Z Z) (aU (S := U) fun _ _ _ => by rw [← hU2]; rfl) ?_
  refine L.op Z (ah Z Z Z hE (pk (S := U) hU1 hnl hfit hn2 (by rw [hU3]; exact hq)) (Ent.refl _) ?_)
  rintro v m ⟨rfl, rfl⟩
  refine ai (L.nil (At.then (At.seq ?_)))
  obtain ⟨ws1, ws2, ws3, ws4, ws5, ws6, ws7, ws8⟩ := FK.pj U (T.CD + 1)
  obtain ⟨V, hV⟩ : ∃ V, V = U.wake (T.CD + 1) := ⟨_, rfl⟩
  rw [← hV] at ws7
  rw [← hV]
  refine At.region (L.mv Z Z (aR Z Z (aI 7 Z Z Z ?_)))
  refine L.val Z (aa (v := .int .u64 ((T.CD + 1 : Nat) : Int)) Z Z) (aU (S := V) fun _ _ _ => by rw [← hU2, ← ws7]; rfl) ?_
  refine L.as Z Z (L.nil (At.then (At.ret ?_)))
  have hfin : V = T.submit fl := by rw [hV, hU]; rfl
  exact aA [ap e p' V] rfl Z ⟨T, p', hT, by rw [k6], by rw [hfin]⟩ (Ent.cons Ent.drop)
end Go.Proofs.YtmeegfamopaljaaGreatDoor

namespace Go.SL
open Go Go.RowKit
class SelC (p : HP) (l : List HP) (r : outParam (List HP)) : Prop where
 sel : Sel p l r
instance SelC.head {p : HP} {l : List HP} : SelC p (p :: l) l := ⟨.head⟩
instance (priority := low) SelC.tail {p q : HP} {l r : List HP} [h : SelC p l r] : SelC p (q :: l) (q :: r) := ⟨.tail h.sel⟩
class EntC (l m : List HP) : Prop where
 ent : Ent l m
instance (priority := high) EntC.refl {l : List HP} : EntC l l := ⟨Ent.refl l⟩
instance EntC.cons {p : HP} {l r m : List HP} [s : SelC p l r] [h : EntC r m] : EntC l (p :: m) := ⟨(Ent.sel s.sel).trans (Ent.cons h.ent)⟩
instance (priority := low) EntC.drop {x : HP} {l m : List HP} [h : EntC l m] : EntC (x :: l) m := ⟨Ent.drop.trans h.ent⟩
theorem al {l m : List HP} [h : EntC l m] : Ent l m := h.ent
class HasVal (v : Value) (l : List HP) (e : outParam TypeId) (size m : outParam Nat) (xs : outParam (List Value)) (r : outParam (List HP)) : Prop where
 sel : Sel (row e size v m xs) l r
instance HasVal.head {v : Value} {e : TypeId} {size m : Nat} {xs : List Value} {l : List HP} : HasVal v (row e size v m xs :: l) e size m xs l := ⟨.head⟩
instance (priority := low) HasVal.tail {v : Value} {e : TypeId} {size m : Nat} {xs : List Value} {l r : List HP} {p : HP} [h : HasVal v l e size m xs r] : HasVal v (p :: l) e size m xs (p :: r) := ⟨.tail h.sel⟩
theorem aD {E : Env} {n : Nat} {D : List Deferred} {ts : List (Nat × Value)} {l r : List HP} {K : Act → World → Prop} (b : Nat) {tb : TypeId} {cs : Array Value} (cs' : Array Value) [H : Has b l (.cells cs tb) r] (h : cs = cs') (hk : At E n D ts (blk b tb cs' :: r) K) : At E n D ts l K := by
 subst h
 exact At.ent (Ent.sel H.sel) hk
end Go.SL

namespace Go.Proofs.YtmeegfamopaljaaGreatDoor
open Go Go.RowKit Go.SL
variable {G : Env → Prop}
abbrev bG (run : Nat) (st : Int) (v2 v3 : Value) : List Value := [.int .u64 run, .int .i64 st, v2, v3]
set_option maxRecDepth 10000 in
set_option maxHeartbeats 1000000 in
theorem sE {e : Nat} {p : EA} {S : FK.En} {id : Nat} {R : FK.Rn} (hR : S.getR id = some R) (hn : R.CF.length ≤ 100) : Does Tryz.prog G 105 [aO e, aY id].toArray [ap e p S] fun v m => ∃ v2 v3, v = .tuple #[.agg (bG id R.state v2 v3).toArray, .bool true] ∧ m = [ap e p S, aF v2 (R.CF.map (·.state)), aF v3 (R.CF.map (·.CE))] := by
 refine Does.body Tryz.func105 Z Z fun E fr hE => ?_
 refine ai (At.seq (At.region (L.op Z (aN (z := .agg #[.int .u64 0, .int .i64 0, .slice none 0 0, .slice none 0 0]) Z Z fun b4 => (L.as Z Z (L.nil (At.then (At.seq (At.region (L.mv Z Z (aR Z Z (aI 1 Z Z Z ?_))))))))))))
 refine L.val Z (aa (v := .map (some p.rm)) Z Z) (aU fun _ _ _ => rfl) ?_
 refine L.mv Z Z (L.val Z (i6 (m := dN S p) Z dV Z Z (e8 hR)) dp (L.mv Z Z (L.ex Z Z Z (L.ex Z Z Z (L.as Z Z (L.as Z Z (L.nil (At.then (At.seq (At.seq (At.region (L.mv Z Z (L.pure Z (cg Z Z) (L.nil (At.then (aj Z (At.skip (At.then (At.seq ?_)))))))))))))))))))
 refine At.region (L.mv Z Z (L.mv Z Z (aR Z Z (aI 2 Z Z Z (L.val Z (aa (v := .int .i64 R.state) Z Z) (bQ hR Z) (L.pure Z (bn (cs := (bG id R.state (.slice none 0 0) (.slice none 0 0)).toArray) Z Z Z Z Z) ?_))))))
 refine L.op Z (aK (vs := bG id R.state (.slice none 0 0) (.slice none 0 0)) Z (m := 4) Z Z Z Z (by simp [Value.oneCell']) (by show 0 + 4 ≤ 4; omega) ?_)
 refine L.nil (At.then (At.seq (At.seq (At.region (L.mv Z Z (aR Z Z (aI 3 Z Z Z (L.val Z (aa (v := (p.ra id).sv R) Z Z) (bQ hR Z) (L.pure Z (aM Z Z) (L.mv Z Z (L.nil (At.then (At.block ?_)))))))))))))
 refine bk (X := Nat × Value × Value) (fun x => [(32, .int .i64 x.1), (31, .int .i64 R.CF.length), (30, (p.ra id).sv R), (4, aO b4), (6, aO (p.fb id))]) (fun x => blk b4 62 (bG id R.state x.2.1 x.2.2).toArray :: row 3 1 x.2.1 x.1 (bp ((R.CF.take x.1).map (·.state))) :: row 3 1 x.2.2 x.1 (bp ((R.CF.take x.1).map (·.CE))) :: ap e p S :: fr) (fun x => x.1 ≤ R.CF.length) (fun x => R.CF.length - x.1) (0, .slice none 0 0, .slice none 0 0) (Nat.zero_le _) ⟨rfl, rfl, rfl, rfl, rfl, trivial⟩ (Ent.cons (Ent.row0.trans (Ent.cons Ent.row0))) ?_
 rintro ⟨k, v2, v3⟩ hk
 replace hk : k ≤ R.CF.length := hk
 refine At.ent (l' := blk b4 62 (bG id R.state v2 v3).toArray :: row 3 1 v2 k (bp ((R.CF.take k).map (·.state))) :: row 3 1 v3 k (bp ((R.CF.take k).map (·.CE))) :: ap e p S :: fr) (Ent.refl _) ?_
 refine At.seq (At.region (L.pure Z (bl Z Z Z) (L.nil (At.then (At.seq ?_)))))
 refine aE Z (fun c33 => ?_) (fun c33 => ?_)
 ·
  have hlt : k < R.CF.length := by have : (k : Int) < (R.CF.length : Int) := c33; omega
  obtain ⟨s, hs⟩ : ∃ s, R.CF[k]? = some s := ⟨R.CF[k], by simp [hlt]⟩
  have ht1 : bp ((R.CF.take k).map (·.state)) ++ [.int .i64 s.state] = bp ((R.CF.take (k + 1)).map (·.state)) := by rw [List.take_add_one, hs]; simp [bp]
  have ht2 : bp ((R.CF.take k).map (·.CE)) ++ [.int .i64 s.CE] = bp ((R.CF.take (k + 1)).map (·.CE)) := by rw [List.take_add_one, hs]; simp [bp]
  refine At.skip (At.then (At.seq (At.block (At.seq (At.region (L.pure Z (aT (z := 3) Z Z Z Z hlt) (L.val Z (ao (vs := p8 s) Z Z Z Z) (rz hR hs) (L.op Z (aN (z := .agg #[.int .i64 0, .int .i64 0, .int .u64 0]) Z Z fun b8 => ?_)))))))))
  refine L.op Z (aK (vs := p8 s) Z (m := 3) Z Z Z Z (by simp [Value.oneCell']) (by show 0 + 3 ≤ 3; omega) ?_)
  refine At.ent (l' := blk b8 265 (p8 s).toArray :: blk b4 62 (bG id R.state v2 v3).toArray :: row 3 1 v2 k (bp ((R.CF.take k).map (·.state))) :: row 3 1 v3 k (bp ((R.CF.take k).map (·.CE))) :: ap e p S :: fr) (Ent.refl _) ?_
  refine L.nil (At.then (Dr.start Z (dP 0 Z Z (ab (off := 2) Z Z) (dL 1 Z Z (aa Z Z) (ag Z) (dP 2 Z Z (ab (off := 0) Z Z) (dL 3 Z Z (aa Z Z) (ag Z) (dP 6 Z Z (ab (off := 3) Z Z) (dL 7 Z Z (aa Z Z) (ag Z) (dP 8 Z Z (ab (off := 1) Z Z) (dL 9 Z Z (aa Z Z) (ag Z) ?_))))))))))
  refine gJ 4 10 Z Z Z Z (by kernel_rfl) (da Z Z Z Z Z Z fun b40 => ?_) (da Z Z Z Z Z Z fun b46 => ?_)
  ·
   refine dK [true, true, false, true] (Kept.cons (ag Z) (Kept.cons (ag Z) (Kept.cons (ag Z) Kept.nil))) ?_
   refine gJ 5 10 rfl rfl rfl rfl (by kernel_rfl) (cm rfl rfl fF rfl (by omega) rfl rfl (HasVal.sel (v := v2)) (news := [.int .i64 s.state]) rfl (fun h => by cases h) (fN (fun j u h => by simpa using h)) (by simp [Value.oneCell']) (by unfold maxLen; omega) (by omega) fun v41 hv41 => ?_) (da rfl rfl rfl rfl rfl rfl fun b46 => ?_)
   ·
    refine aC (HasVal.sel (v := v41)) ?_
    rintro A41 c41 rfl - - - - -
    refine dK [true, true, false] (Kept.cons (ag Z) (Kept.cons (ag Z) Kept.nil)) (dP 12 Z Z (ab (off := 2) Z Z) (dR 10 Z Z (da Z Z Z Z Z Z fun b46 => (dK [false, true] (Kept.cons (ag Z) Kept.nil) ?_))))
    refine dR 11 rfl rfl (cm rfl rfl fF rfl (by omega) rfl rfl (HasVal.sel (v := v3)) (news := [.int .i64 s.CE]) rfl (fun h => by cases h) (fN (fun j u h => by simpa using h)) (by simp [Value.oneCell']) (by unfold maxLen; omega) (by omega) fun v47 hv47 => ?_)
    refine aC (HasVal.sel (v := v47)) ?_
    rintro A47 c47 rfl - - - - -
    refine dK [false] Kept.nil ?_
    refine dR 13 Z Z (bB Z Z Z Z Z (by first | decide | simp | (simp; omega)) ?_)
    refine dK [] Kept.nil (dP 14 Z Z (ab (off := 3) Z Z) ?_)
    refine dR 15 Z Z (bB Z Z Z Z Z (by first | decide | simp | (simp; omega)) ?_)
    refine dK [] Kept.nil (dE (an (At.then (aD b4 (bG id R.state (.slice A41 (k + 1) c41) (.slice A47 (k + 1) c47)).toArray Z (At.region (L.pure Z (aS (r := ((k + 1 : Nat) : Int)) Z Z (by rw [dd (by omega)]; omega)) (L.mv Z Z (L.nil ?_))))))))
    exact At.round (k + 1, .slice A41 (k + 1) c41, .slice A47 (k + 1) c47) hlt (by show R.CF.length - (k + 1) < R.CF.length - k; omega) ⟨rfl, rfl, rfl, rfl, rfl, trivial⟩ (by rw [ht1, ht2]; exact al)
   ·
    refine dK [false, true, true] (Kept.cons (ag Z) (Kept.cons (ag Z) Kept.nil)) ?_
    refine dR 5 rfl rfl (cm rfl rfl fF rfl (by omega) rfl rfl (HasVal.sel (v := v2)) (news := [.int .i64 s.state]) rfl (fun h => by cases h) (fN (fun j u h => by simpa using h)) (by simp [Value.oneCell']) (by unfold maxLen; omega) (by omega) fun v41 hv41 => ?_)
    refine aC (HasVal.sel (v := v41)) ?_
    rintro A41 c41 rfl - - - - -
    refine dK [true, false] (Kept.cons (ag Z) Kept.nil) (dP 12 Z Z (ab (off := 2) Z Z) ?_)
    refine dR 11 rfl rfl (cm rfl rfl fF rfl (by omega) rfl rfl (HasVal.sel (v := v3)) (news := [.int .i64 s.CE]) rfl (fun h => by cases h) (fN (fun j u h => by simpa using h)) (by simp [Value.oneCell']) (by unfold maxLen; omega) (by omega) fun v47 hv47 => ?_)
    refine aC (HasVal.sel (v := v47)) ?_
    rintro A47 c47 rfl - - - - -
    refine dK [false] Kept.nil ?_
    refine dR 13 Z Z (bB Z Z Z Z Z (by first | decide | simp | (simp; omega)) ?_)
    refine dK [] Kept.nil (dP 14 Z Z (ab (off := 3) Z Z) ?_)
    refine dR 15 Z Z (bB Z Z Z Z Z (by first | decide | simp | (simp; omega)) ?_)
    refine dK [] Kept.nil (dE (an (At.then (aD b4 (bG id R.state (.slice A41 (k + 1) c41) (.slice A47 (k + 1) c47)).toArray Z (At.region (L.pure Z (aS (r := ((k + 1 : Nat) : Int)) Z Z (by rw [dd (by omega)]; omega)) (L.mv Z Z (L.nil ?_))))))))
    exact At.round (k + 1, .slice A41 (k + 1) c41, .slice A47 (k + 1) c47) hlt (by show R.CF.length - (k + 1) < R.CF.length - k; omega) ⟨rfl, rfl, rfl, rfl, rfl, trivial⟩ (by rw [ht1, ht2]; exact al)
  ·
   refine dK [false, true, true, true] (Kept.cons (ag Z) (Kept.cons (ag Z) (Kept.cons (ag Z) Kept.nil))) (dR 4 Z Z (da Z Z Z Z Z Z fun b40 => (dK [true, false, true] (Kept.cons (ag Z) (Kept.cons (ag Z) Kept.nil)) ?_)))
   refine dR 5 rfl rfl (cm rfl rfl fF rfl (by omega) rfl rfl (HasVal.sel (v := v2)) (news := [.int .i64 s.state]) rfl (fun h => by cases h) (fN (fun j u h => by simpa using h)) (by simp [Value.oneCell']) (by unfold maxLen; omega) (by omega) fun v41 hv41 => ?_)
   refine aC (HasVal.sel (v := v41)) ?_
   rintro A41 c41 rfl - - - - -
   refine dK [true, false] (Kept.cons (ag Z) Kept.nil) (dP 12 Z Z (ab (off := 2) Z Z) ?_)
   refine dR 11 rfl rfl (cm rfl rfl fF rfl (by omega) rfl rfl (HasVal.sel (v := v3)) (news := [.int .i64 s.CE]) rfl (fun h => by cases h) (fN (fun j u h => by simpa using h)) (by simp [Value.oneCell']) (by unfold maxLen; omega) (by omega) fun v47 hv47 => ?_)
   refine aC (HasVal.sel (v := v47)) ?_
   rintro A47 c47 rfl - - - - -
   refine dK [false] Kept.nil ?_
   refine dR 13 Z Z (bB Z Z Z Z Z (by first | decide | simp | (simp; omega)) ?_)
   refine dK [] Kept.nil (dP 14 Z Z (ab (off := 3) Z Z) ?_)
   refine dR 15 Z Z (bB Z Z Z Z Z (by first | decide | simp | (simp; omega)) ?_)
   refine dK [] Kept.nil (dE (an (At.then (aD b4 (bG id R.state (.slice A41 (k + 1) c41) (.slice A47 (k + 1) c47)).toArray Z (At.region (L.pure Z (aS (r := ((k + 1 : Nat) : Int)) Z Z (by rw [dd (by omega)]; omega)) (L.mv Z Z (L.nil ?_))))))))
   exact At.round (k + 1, .slice A41 (k + 1) c41, .slice A47 (k + 1) c47) hlt (by show R.CF.length - (k + 1) < R.CF.length - k; omega) ⟨rfl, rfl, rfl, rfl, rfl, trivial⟩ (by rw [ht1, ht2]; exact al)
 ·
  have hke : k = R.CF.length := by have : ¬ (k : Int) < (R.CF.length : Int) := c33; omega
  refine At.exit (az (ay (ar (At.then (At.seq (aC (HasVal.sel (v := v2)) ?_))))))
  rintro A2 c2 rfl - - - - -
  refine aC (HasVal.sel (v := v3)) ?_
  rintro A3 c3 rfl - - - - -
  refine At.region (L.val Z (ao (vs := bG id R.state (.slice A2 k c2) (.slice A3 k c3)) Z Z Z Z) (aw Z) ?_)
  refine L.op Z (aK (vs := bG id R.state (.slice A2 k c2) (.slice A3 k c3)) Z (m := 4) Z Z Z Z (by simp [Value.oneCell']) (by show 0 + 4 ≤ 4; omega) ?_)
  refine L.as Z Z (L.nil (At.then (At.ret ?_)))
  refine fe [ap e p S, aF (.slice A2 k c2) (R.CF.map (·.state)), aF (.slice A3 k c3) (R.CF.map (·.CE))] rfl (bZ (vs := bG id R.state (.slice A2 k c2) (.slice A3 k c3)) Z Z Z Z (aw Z)) (Res.tmp Z) ⟨_, _, rfl, rfl⟩ ?_
  rw [List.take_of_length_le (by omega)]
  show Ent _ (ap e p S :: row 3 1 _ (R.CF.map (·.state)).length _ :: row 3 1 _ (R.CF.map (·.CE)).length _ :: fr)
  rw [List.length_map, List.length_map, ← hke]
  exact al
open Go Go.RowKit Go.SL
variable {G : Env → Prop}
theorem zB : e7 Tryz.prog 55 (gc 0 0 0 0) 4 32 := by unfold e7; kernel_rfl
end Go.Proofs.YtmeegfamopaljaaGreatDoor

set_option maxRecDepth 10000
namespace Go.Proofs.YtmeegfamopaljaaGreatDoor
open Go Go.RowKit Go.SL
variable {G : Env → Prop}
theorem oN {Y : List HP} (xs : List Int) (A : Option Addr) (c : Nat) (F : FuncId) (cap : Array Value) (f : Int → Bool) (hlen : xs.length ≤ 9223372036854775807) (hA : xs ≠ [] → ∃ g, A = some ⟨g, 0, none⟩ ∧ ∀ E w r, Holds E w (Y ++ r) → ∀ j x, xs[j]? = some x → bK ⟨g, 0 + j * 1, none⟩ (.int .i64 x) w) (hF : eM Tryz.prog F = true) (hf : ∀ x ∈ xs, Does Tryz.prog G F (#[.int .i64 x] ++ cap) Y fun v m => v = .bool (f x) ∧ m = Y) :
 Does Tryz.prog G 281 [.slice A xs.length c, .func (.func F) #[] cap].toArray Y fun u m => (∃ i : Int, u = .int .i64 i ∧ (0 ≤ i ↔ xs.any f = true)) ∧ m = Y := by
 refine Does.body Tryz.func281 Z Z fun E fr hE => ?_
 refine At.seq (At.region (L.as Z Z (L.nil (At.then (At.seq (At.seq (At.region (L.mv Z Z (L.pure Z (aM Z Z) (L.mv Z Z (L.nil (At.then (At.block ?_)))))))))))))
 refine bk (X := Nat) (fun k => [(8, .int .i64 k), (7, .int .i64 xs.length), (0, .slice A xs.length c), (1, .func (.func F) #[] cap)]) (fun _ => Y ++ fr) (fun k => k ≤ xs.length ∧ (xs.take k).any f = false) (fun k => xs.length - k) 0 ⟨Nat.zero_le _, rfl⟩ ⟨rfl, rfl, rfl, rfl, trivial⟩ (Ent.refl _) ?_
 rintro k ⟨hk, hno⟩
 refine At.seq (At.region (L.pure Z (bl Z Z Z) (L.nil (At.then (At.seq ?_)))))
 refine aE Z (fun c9 => ?_) (fun c9 => ?_)
 ·
  have hlt : k < xs.length := by omega
  obtain ⟨g, rfl, hcell⟩ := hA (by intro h; rw [h] at hlt; simp at hlt)
  obtain ⟨x, hx⟩ : ∃ x, xs[k]? = some x := ⟨xs[k], by simp [hlt]⟩
  have htk : xs.take (k + 1) = xs.take k ++ [x] := by rw [List.take_add_one, hx]; rfl
  refine At.skip (At.then (At.seq (At.block (At.seq (At.region (L.mv Z Z (L.as Z Z (L.nil (At.then (At.seq (At.region (L.mv Z Z (L.mv Z Z (L.mv Z Z (L.pure Z (aT (z := 1) Z Z Z Z hlt) ?_)))))))))))))))
  refine L.val Z (aa (v := .int .i64 x) Z Z) (fun w hw => hcell _ _ _ hw k x hx) ?_
  refine L.op Z (j6 Z Z hF Z hE (hf x (List.mem_of_getElem? hx)) (Ent.refl _) ?_)
  rintro v m ⟨rfl, hm⟩
  rw [hm]
  refine L.nil (At.then ?_)
  refine fG Z (fun c16 => ?_) (fun c16 => ?_)
  ·
   refine At.seq (At.region (L.mv Z Z (L.as Z Z (L.nil (At.then (At.ret (aB (aG (cp (aB (aG ?_)))))))))))
   exact aA Y Z Z ⟨⟨_, rfl, by
    have : xs.any f = true := List.any_eq_true.2 ⟨x, List.mem_of_getElem? hx, c16⟩
    simp [this]⟩, rfl⟩ (Ent.refl _)
  ·
   refine At.skip (an (At.then (At.region (L.pure Z (aS (r := ((k + 1 : Nat) : Int)) Z Z (by rw [dd (by omega)]; omega)) (L.mv Z Z (L.nil ?_))))))
   exact At.round (k + 1) ⟨hlt, by rw [htk, List.any_append, hno]; simp [c16]⟩ (by omega) ⟨rfl, rfl, rfl, rfl, trivial⟩ (Ent.refl _)
 ·
  have hke : k = xs.length := by omega
  rw [hke, List.take_length] at hno
  refine At.exit (az (ay (ar (At.then (At.seq (At.region (L.as Z Z (L.nil (At.then (At.ret ?_))))))))))
  exact aA Y Z Z ⟨⟨_, rfl, by simp [hno]⟩, rfl⟩ (Ent.refl _)
theorem lN {Y : List HP} (xs : List Int) (A : Option Addr) (c : Nat) (F : FuncId) (cap : Array Value) (f : Int → Bool) (hlen : xs.length ≤ 9223372036854775807) (hA : xs ≠ [] → ∃ g, A = some ⟨g, 0, none⟩ ∧ ∀ E w r, Holds E w (Y ++ r) → ∀ j x, xs[j]? = some x → bK ⟨g, 0 + j * 1, none⟩ (.int .i64 x) w) (hF : eM Tryz.prog F = true) (hf : ∀ x ∈ xs, Does Tryz.prog G F (#[.int .i64 x] ++ cap) Y fun v m => v = .bool (f x) ∧ m = Y) :
 Does Tryz.prog G 256 [.slice A xs.length c, .func (.func F) #[] cap].toArray Y fun u m => u = .bool (xs.any f) ∧ m = Y := by
 refine Does.body Tryz.func256 Z Z fun E fr hE => ?_
 refine At.seq (At.region (L.as Z Z (L.nil (At.then (At.seq (At.region (L.mv Z Z (L.mv Z Z ?_))))))))
 refine L.op Z (ah Z Z Z hE (oN xs A c F cap f hlen hA hF hf) (Ent.refl _) ?_)
 rintro v m ⟨⟨i, rfl, hi⟩, hm⟩
 rw [hm]
 refine L.pure Z (lV Z Z Z) (L.as Z Z (L.nil (At.then (At.ret ?_))))
 have hd : decide ((0 : Int) ≤ i) = xs.any f := by
  cases hx : xs.any f with
  | true => exact decide_eq_true (hi.2 hx)
  | false => exact decide_eq_false (fun h => by rw [hi.1 h] at hx; cases hx)
 exact aA Y Z Z ⟨by rw [hd], rfl⟩ (Ent.refl _)
theorem Ent.under {n : Nat} {a b : List HP} (h : Ent a b) : Ent (a.map (SL.under n)) (b.map (SL.under n)) := fun w _ s => (Star.under (h w _ (jA s)) fun _ hk => hk.2).mono fun _ hk => hk.1
theorem xO {n g c m size : Nat} {t : TypeId} {xs : List Value} {r : List HP} : Ent (SL.under n (row t size (.slice (some ⟨g, 0, none⟩) m c) m xs) :: r) (HP.pure (g < n) :: row t size (.slice (some ⟨g, 0, none⟩) m c) m xs :: r) := fun w F ⟨F1, F2, h1, h2, hd, hp, hl⟩ =>
 Ent.pure (hp.2 g rfl).2 w F ⟨F1, F2, h1, h2, hd, (row t size (.slice (some ⟨g, 0, none⟩) m c) m xs).loc (fun _ h => h.1) (fun _ _ => rfl) hp, hl⟩
theorem xP {n g c m size : Nat} {t : TypeId} {xs : List Value} {r : List HP} (hg : g < n) : Ent (row t size (.slice (some ⟨g, 0, none⟩) m c) m xs :: r) (SL.under n (row t size (.slice (some ⟨g, 0, none⟩) m c) m xs) :: r) := fun _ _ ⟨F1, F2, h1, h2, hd, hp, hl⟩ =>
 ⟨F1, F2, h1, h2, hd, ⟨hp.1, fun k hk => ⟨hp.2 k hk, by injection hk with hk; subst hk; exact hg⟩⟩, hl⟩
theorem Aa {n b : Nat} {o : Obj} {r : List HP} : Ent (SL.under n (ob b o) :: r) (HP.pure (b < n) :: ob b o :: r) := fun w F ⟨F1, F2, h1, h2, hd, hp, hl⟩ =>
 Ent.pure hp.1.2 w F ⟨F1, F2, h1, h2, hd, ⟨hp.1.1, hp.2⟩, hl⟩
theorem n4 {n b : Nat} {o : Obj} {r : List HP} (hb : b < n) : Ent (ob b o :: r) (SL.under n (ob b o) :: r) := fun _ _ ⟨F1, F2, h1, h2, hd, hp, hl⟩ =>
 ⟨F1, F2, h1, h2, hd, ⟨⟨hp.1, hb⟩, hp.2⟩, hl⟩
section
variable {P : Program} {E : Env} {n : Nat} {D : List Deferred} {ts : List (Nat × Value)} {l r : List HP} {Q : Exit → Act → World → Prop} {ty : TypeId} {pos : String} {af : Array Edge} {g : Option (Nat × Bool)} {t : TypeId} {x y : Operand} {e : Nat} {p : EA} {S : FK.En} {K : Act → World → Prop}
theorem wS {h id k j o : Nat} {R : FK.Rn} {s s' : FK.Sp} {v : Value} (H : Sel (SL.under h (ap e p S)) l r) (hR : S.getR id = some R) (hs : R.CF[k]? = some s) (hz : ce P t 1) (hx : ev ts x = some (.pointer (some ⟨(p.ra id).gs, o, none⟩))) (hy : ev ts y = some v) (ho : o = 0 + k * 3 + j) (hj : j < 3) (hv : v.oneCell' = true) (hset : (p8 s).set j v = p8 s')
 (hk : At E n D ts (SL.under h (ap e p (S.setR id (R.setS k s'))) :: r) K) : At E n D ts l (fun a w => (Oper.mk none (.store t x y) ty pos af g).wp P a w K Q) := by
 refine At.ent (Ent.sel H) ?_
 refine eP (p := cZ S) (fun w hw => kK hw) fun hn => ?_
 obtain ⟨a, b, hab, hset'⟩ := ik hR hn
 refine At.ent ((Ent.under (n := h) (iA (e := e) (p := p) (r := []) hab)).append r) ?_
 rw [List.append_nil]
 have hkl := (List.getElem?_eq_some_iff.1 hs).1
 have hl : (R.setS k s').CF.length = R.CF.length := by simp [FK.Rn.setS]
 show At E n D ts (SL.under h (HP.pure ((p.ra id).vs.length = R.fl.CG.length)) :: SL.under h (tH (p.fb id) (p.ra id) R) :: SL.under h (row 46 7 ((p.ra id).nv R) R.fl.CG.length (aZ R.fl.CG (p.ra id).vs)) :: SL.under h (dY (p.ra id).vs R.fl.CG) :: SL.under h (row 265 3 ((p.ra id).sv R) R.CF.length (p7 R.CF)) :: ((kC e p S a b).map (SL.under h) ++ r)) _
 refine At.ent ((Ent.sel (.tail (.tail (.tail (.tail .head))))).trans xO) ?_
 refine At.pure .head fun hg => ?_
 refine dZ .head hz hx hy hv (by omega) ?_
 refine At.ent ?_ hk
 subst ho
 rw [nH hs hj hset]
 refine (xP hg).trans ?_
 refine ((cc (.tail .head) (.tail .head) (.tail .head)).trans (Ent.cons (Ent.cons (Ent.cons (Ent.sel (.tail .head)))))).trans ?_
 have hc := (Ent.under (n := h) (gK (e := e) (p := p) (r := []) hn (hset' (R.setS k s')))).append r
 rw [List.append_nil] at hc
 refine Ent.trans ?_ hc
 show Ent _ (SL.under h (HP.pure ((p.ra id).vs.length = R.fl.CG.length)) :: SL.under h (blk (p.fb id) 263 #[.int .i64 R.fl.deadline, (p.ra id).nv R, .int .i64 R.state, .slice (some ⟨(p.ra id).gs, 0, none⟩) (R.setS k s').CF.length (p.ra id).cs, .int .u64 R.ended]) :: SL.under h (row 46 7 ((p.ra id).nv R) R.fl.CG.length (aZ R.fl.CG (p.ra id).vs)) :: SL.under h (dY (p.ra id).vs R.fl.CG) :: SL.under h (row 265 3 (.slice (some ⟨(p.ra id).gs, 0, none⟩) (R.setS k s').CF.length (p.ra id).cs) (R.setS k s').CF.length (p7 (R.CF.set k s'))) :: ((kC e p S a b).map (SL.under h) ++ r))
 rw [hl]
 exact Ent.refl _
end
end Go.Proofs.YtmeegfamopaljaaGreatDoor

set_option maxRecDepth 10000
namespace FK
theorem yR {ns : List Node} {l : List Sp} {k : Nat} {s : Sp} {nd : Node} (hs : l[k]? = some s) (hn : ns[k]? = some nd) : bY ns l k = if s.state = 1 ∧ (nd.after.any fun u => bS l u.toNat 6 || bS l u.toNat 7) then l.set k { s with state := 7 } else l := by
 unfold bY
 rw [hs, hn]
end FK
namespace Go.Proofs.YtmeegfamopaljaaGreatDoor
open Go Go.RowKit Go.SL
variable {G : Env → Prop}
abbrev eX (c : Nat) (v : Value) : HP := blk c 260 #[v]
section
variable {S : FK.En} {R : FK.Rn} {id : Nat}
theorem AD (hR : S.getR id = some R) (hn : cZ S) : S.setR id R = S := by
 obtain ⟨a, b, h1, h2⟩ := ik hR hn
 have h3 : (S.setR id R).runs = S.runs := by rw [h2, h1]
 have h4 : S.setR id R = { S with runs := (S.setR id R).runs } := rfl
 rw [h4, h3]
theorem q8 {e : Nat} {p : EA} {u h c : Nat} {s : FK.Sp} (hR : S.getR id = some R) (hs : R.CF[u]? = some s) : Does Tryz.prog G 257 [.int .i64 u, aO c].toArray [SL.under h (ap e p S), eX c (aO (p.fb id))] fun v m => v = .bool (decide (s.state ∈ [6, 7])) ∧ m = [SL.under h (ap e p S), eX c (aO (p.fb id))] := by
 refine Does.body Tryz.func257 Z Z fun E fr hE => ?_
 refine aJ (At.seq (At.region (L.as Z Z (L.nil (At.then (At.seq (At.region (bd Z Z Z Z (L.mv Z Z (L.op Z (rF Z Z Z Z Z Z Z Z fun b6 => ?_)))))))))))
 refine L.op Z (ah Z Z Z hE (nM [6, 7] (some ⟨b6, 0, none⟩) 2 hR hs) ((aP (.tail (.head)) .head).trans (Ent.cons (eB (xs := [6, 7]) (show 2 ≤ 9223372036854775807 by omega)))) ?_)
 rintro v m ⟨rfl, rfl⟩
 exact ai (L.as Z Z (L.nil (At.then (At.ret (aA [_, _] rfl Z ⟨rfl, rfl⟩ (Ent.refl _))))))
set_option maxHeartbeats 1000000 in
theorem tg {e : Nat} {p : EA} {k h c : Nat} (hR : S.getR id = some R) (hlen : R.CF.length = R.fl.CG.length) (hfit : wd R.fl) (_hn : R.fl.CG.length ≤ 100) (hk : k < R.fl.CG.length) :
 Does Tryz.prog G 255 (#[.int .i64 k] ++ #[aO c]) [SL.under h (ap e p S), SL.under h (eX c (aO (p.fb id)))] fun v m => v = .tuple #[] ∧ m = [SL.under h (ap e p (S.setR id { R with CF := FK.bY R.fl.CG R.CF k })), SL.under h (eX c (aO (p.fb id)))] := by
 obtain ⟨s, hs⟩ : ∃ s, R.CF[k]? = some s := ⟨R.CF[k]'(by omega), by simp⟩
 obtain ⟨nd, cN⟩ : ∃ nd, R.fl.CG[k]? = some nd := ⟨R.fl.CG[k], by simp [hk]⟩
 have hkl := (List.getElem?_eq_some_iff.1 hs).1
 have hsk := FK.yR hs cN
 refine Does.body Tryz.func255 Z Z fun E fr hE => ?_
 refine aJ ?_
 refine At.ent ((Ent.sel (.tail .head)).trans Aa) (At.pure .head fun hch => ?_)
 refine eP (p := cZ S) (fun w hw => kK hw) fun hok => ?_
 have hsame : S.setR id R = S := AD hR hok
 refine eP (fun w hw => jR hR cN hw) fun hA => ?_
 obtain ⟨A, ca, hu, hA1, hA2, hA3, hA4⟩ := hA
 replace hA4 : ca ≤ 9223372036854775807 := hA4
 have hcf : ∀ x ∈ nd.after, Does Tryz.prog G 257 (#[.int .i64 x] ++ #[aO c]) [SL.under h (ap e p S), eX c (aO (p.fb id))] fun v m => v = .bool (FK.bS R.CF x.toNat 6 || FK.bS R.CF x.toNat 7) ∧ m = [SL.under h (ap e p S), eX c (aO (p.fb id))] := fun x hx => by
  obtain ⟨hx0, hxn⟩ := hfit nd (List.mem_of_getElem? cN) x hx
  obtain ⟨u, rfl⟩ : ∃ u : Nat, x = (u : Int) := ⟨x.toNat, by omega⟩
  obtain ⟨s2, hs2⟩ : ∃ s2, R.CF[u]? = some s2 := ⟨R.CF[u]'(by omega), by simp⟩
  have hb : decide (s2.state ∈ ([6, 7] : List Int)) = (FK.bS R.CF (u : Int).toNat 6 || FK.bS R.CF (u : Int).toNat 7) := by
   rw [Int.toNat_natCast, FK.dw hs2, FK.dw hs2]
   by_cases h6 : s2.state = 6
   · simp [h6]
   · by_cases h7 : s2.state = 7 <;> simp [h6, h7]
  rw [← hb]
  exact q8 hR hs2
 have hcl : nd.after ≠ [] → ∃ g, A = some ⟨g, 0, none⟩ ∧ ∀ E w r, Holds E w ([SL.under h (ap e p S), eX c (aO (p.fb id))] ++ r) → ∀ j x, nd.after[j]? = some x → bK ⟨g, 0 + j * 1, none⟩ (.int .i64 x) w := fun hne => by
  have hp := List.length_pos_iff.2 hne
  cases A with
  | none => have := (hA1 rfl).1; omega
  | some ad =>
   obtain ⟨g, rfl⟩ := hA2 ad rfl
   exact ⟨g, rfl, fun E w r hw j x hx => se (l := SL.under h (ap e p S) :: eX c (aO (p.fb id)) :: r) hR cN hu hx w hw⟩
 refine At.seq ?_
 by_cases HW : s.state = 1
 ·
  refine At.region (bd Z Z Z Z (L.mv Z Z (L.op Z (da Z Z Z Z Z Z fun b5 => ?_))))
  refine L.op Z (ah Z Z Z hE (nM [1] (some ⟨b5, 0, none⟩) 1 hR hs) ((aP (.tail (.tail (.head))) .head).trans (Ent.cons (eB (xs := [1]) (show 1 ≤ 9223372036854775807 by omega)))) ?_)
  rintro v m ⟨rfl, rfl⟩
  refine ai ?_
  rw [show decide (s.state ∈ ([1] : List Int)) = true by simp [HW]]
  refine L.mv Z Z (lA Z Z Z (aa Z Z) (ag Z) (lT Z Z Z (am Z) (lT Z Z Z (ab (off := 0) Z Z) (lT Z Z Z (ab (off := 1) Z Z) (lA Z Z Z (aa (v := (p.ra id).nv R) Z Z) (bQ hR Z) (lT Z Z Z (ae Z) (lT Z Z Z (aT (z := 7) Z Z Z Z hk) (lT Z Z Z (ab (off := 6) Z Z) ?_))))))))
  refine lA Z Z Z (aa (v := .slice A nd.after.length ca) Z Z) (fun w hw => dz hR cN hu w hw 6 _ Z) ?_
  refine lT Z Z Z (eO Z Z) ?_
  refine L.on Z Z Z (ah Z Z Z hE (lN nd.after A ca 257 #[aO c] (fun x => FK.bS R.CF x.toNat 6 || FK.bS R.CF x.toNat 7) (by omega) hcl Z hcf) (Ent.refl _) ?_)
  rintro v m ⟨rfl, rfl⟩
  refine aJ (L.pure Z (aq Z Z Z) (L.nil (At.then ?_)))
  refine fG Z (fun c19 => ?_) (fun c19 => ?_)
  ·
   refine At.region (bd Z Z Z Z (aR Z Z (aI 3 Z Z Z (L.val Z (aa (v := (p.ra id).sv R) Z Z) (bQ hR Z) (L.mv Z Z (L.pure Z (aT (z := 3) Z Z Z Z hkl) (aI 0 Z Z Z ?_)))))))
   refine L.op Z (wS (j := 0) (s' := { s with state := 7 }) .head hR hs Z Z Z Z (by omega) Z Z ?_)
   refine L.nil ?_
   exact bm [SL.under h (ap e p (S.setR id { R with CF := FK.bY R.fl.CG R.CF k })), SL.under h (eX c (aO (p.fb id)))] rfl ⟨rfl, rfl⟩ (by
    rw [hsk, if_pos ⟨HW, c19⟩]
    exact Ent.cons (n4 hch))
  ·
   refine At.skip ?_
   exact bm [SL.under h (ap e p (S.setR id { R with CF := FK.bY R.fl.CG R.CF k })), SL.under h (eX c (aO (p.fb id)))] rfl ⟨rfl, rfl⟩ (by
    rw [hsk, if_neg (fun h => by rw [h.2] at c19; cases c19), hsame]
    exact Ent.cons (n4 hch))
 ·
  refine At.region (bd Z Z Z Z (L.mv Z Z (L.op Z (da Z Z Z Z Z Z fun b5 => ?_))))
  refine L.op Z (ah Z Z Z hE (nM [1] (some ⟨b5, 0, none⟩) 1 hR hs) ((aP (.tail (.tail (.head))) .head).trans (Ent.cons (eB (xs := [1]) (show 1 ≤ 9223372036854775807 by omega)))) ?_)
  rintro v m ⟨rfl, rfl⟩
  refine ai ?_
  rw [show decide (s.state ∈ ([1] : List Int)) = false by simp [HW]]
  refine L.mv Z Z (L.off Z Z Z Z Z Z (L.off Z Z Z Z Z Z (L.off Z Z Z Z Z Z (L.off Z Z Z Z Z Z (L.off Z Z Z Z Z Z (L.off Z Z Z Z Z Z (L.off Z Z Z Z Z Z (L.off Z Z Z Z Z Z (L.off Z Z Z Z Z Z (L.off Z Z Z Z Z Z (L.off Z Z Z Z Z Z (L.pure Z (aq Z Z Z) (L.nil (At.then (aj Z (At.skip ?_))))))))))))))))
  exact bm [SL.under h (ap e p (S.setR id { R with CF := FK.bY R.fl.CG R.CF k })), SL.under h (eX c (aO (p.fb id)))] rfl ⟨rfl, rfl⟩ (by
   rw [hsk, if_neg (fun h => HW h.1), hsame]
   exact Ent.cons (n4 hch))
end
end Go.Proofs.YtmeegfamopaljaaGreatDoor

namespace Go.Proofs.YtmeegfamopaljaaGreatDoor
open Go Go.RowKit
def eY (ba ca ji k seed : Int) : Int := (if k ≤ 1 then ba else if k < 22 then min ca (ba * 2 ^ (k.toNat - 1)) else ca) + seed % (ji + 1)
theorem wR (n : Nat) (h : n ≤ 21) : (1 : Int) ≤ 2 ^ n ∧ (2 : Int) ^ n ≤ 2097152 := by
 have : ∀ n : Fin 22, (1 : Int) ≤ 2 ^ n.val ∧ (2 : Int) ^ n.val ≤ 2097152 := by decide
 exact this ⟨n, by omega⟩
theorem yE {ba : Int} {n : Nat} (h1 : 1 ≤ ba) (h2 : ba ≤ 1048576) (hn : n ≤ 21) : wrap64 (ba * 2 ^ n) = ba * 2 ^ n ∧ 1 ≤ ba * 2 ^ n ∧ ba * 2 ^ n ≤ 2199023255552 := by
 have ⟨p1, p2⟩ := wR n hn
 have l1 : 1 ≤ ba * 2 ^ n := by have := Int.mul_le_mul h1 p1 (by omega) (by omega); omega
 have l2 : ba * 2 ^ n ≤ 2199023255552 := by have := Int.mul_le_mul h2 p2 (by omega) (by omega); omega
 exact ⟨IntWalk.wrap64_in _ ⟨by omega, by omega⟩, l1, l2⟩
theorem lp {seed ji : Int} (h4 : 0 ≤ ji) (h5 : ji ≤ 1048576) : 0 ≤ seed % (ji + 1) ∧ seed % (ji + 1) ≤ 1048576 := by
 have h1 := Int.emod_nonneg seed (show ji + 1 ≠ 0 by omega)
 have h2 := Int.emod_lt_of_pos seed (show 0 < ji + 1 by omega)
 omega
set_option maxHeartbeats 400000 in
theorem mY (bu cl be ba ca ji : Int) (A : Option Addr) (n c : Nat) (k seed : Int) (w : World)
 (h1 : 1 ≤ ba) (h2 : ba ≤ ca) (h3 : ca ≤ 1048576) (h4 : 0 ≤ ji) (h5 : ji ≤ 1048576) (hs0 : 0 ≤ seed) (hs1 : seed < 18446744073709551616) :
 Calls Tryz.prog 136 #[.agg #[.int .i64 bu, .int .i64 cl, .int .i64 be, .int .i64 ba, .int .i64 ca, .int .i64 ji, .slice A n c], .int .i64 k, .int .u64 seed] w
  fun e w' => e = .returned (.int .i64 (eY ba ca ji k seed)) ∧ Below w.heap.size w w' := by
 have hm := lp (seed := seed) h4 h5
 have HW : Hid (wrap64 (seed % (ji + 1)) = seed % (ji + 1)) := IntWalk.wrap64_in _ ⟨by omega, by omega⟩
 by_cases hk1 : k ≤ 1
 · have HR : Hid (eY ba ca ji k seed = ba + seed % (ji + 1)) := by unfold eY; rw [if_pos hk1]; rfl
   clear hm
   go_enter Tryz.func136, Tryz.ntmps136
   go_wp2
   all_goals
    go_quiet (fail)
    go_wp2
    all_goals
     go_ret
     have hm := lp (seed := seed) h4 h5
     refine ⟨qu ?_, (by repeat (first | assumption | exact Below.refl _ _ | refine below_drewN ?_ _ | refine Below.drew ?_ | refine Below.alloc ?_ (by first | omega | (simp; done) | (simp; omega)) _ | refine Below.setCell ?_ (by first | omega | (simp; done) | (simp; omega)) _))⟩
     rw [HR.out, HW.out]
     rw [IntWalk.wrap64_in _ ⟨by omega, by omega⟩]
     try omega
 · by_cases hk2 : k < 22
   · have hp := yE (n := k.toNat - 1) h1 (by omega) (by omega)
     have HP := Lib.hid hp
     have HR : Hid (eY ba ca ji k seed = min ca (ba * 2 ^ (k.toNat - 1)) + seed % (ji + 1)) := by unfold eY; rw [if_neg hk1, if_pos hk2]; rfl
     clear hm hp
     go_enter Tryz.func136, Tryz.ntmps136
     go_wp2
     go_quiet (fail)
     go_wp2
     all_goals
      go_ret
      have hm := lp (seed := seed) h4 h5
      have hp := HP.out
      refine ⟨qu ?_, (by repeat (first | assumption | exact Below.refl _ _ | refine below_drewN ?_ _ | refine Below.drew ?_ | refine Below.alloc ?_ (by first | omega | (simp; done) | (simp; omega)) _ | refine Below.setCell ?_ (by first | omega | (simp; done) | (simp; omega)) _))⟩
      simp only [HR.out, HW.out, hp.1] at *
      rw [IntWalk.wrap64_in _ ⟨by omega, by omega⟩]
      try omega
   · have HR : Hid (eY ba ca ji k seed = ca + seed % (ji + 1)) := by unfold eY; rw [if_neg hk1, if_neg hk2]; rfl
     clear hm
     go_enter Tryz.func136, Tryz.ntmps136
     go_wp2
     go_ret
     have hm := lp (seed := seed) h4 h5
     refine ⟨qu ?_, (Below.refl _ _).alloc (Nat.le_refl _) _⟩
     rw [HR.out, HW.out]
     rw [IntWalk.wrap64_in _ ⟨by omega, by omega⟩]
open Go Go.RowKit Go.SL
variable {G : Env → Prop}
theorem OwnNodes.nodesAtB {B : Nat} {w : World} {base : Nat} {A : Option Addr} {c : Nat} {l : List FK.Node} {vs : List Value} (h : OwnNodes w base (.slice A l.length c) l vs)
 (hlt : ∀ g, (Value.slice A l.length c).ownBlock = some g → g < B) (hlts : ∀ (i : Nat) (u : Value), vs[i]? = some u → ∀ g, u.ownBlock = some g → g < B) (hr : ∀ n ∈ l, (i64 n.CJ ∧ i64 n.close ∧ i64 n.beat ∧ i64 n.base ∧ i64 n.cap ∧ i64 n.CK) ∧ ∀ x ∈ n.after, i64 x) : NodesAt w B A c l := by
 have hrow := h.row
 rcases hrow.2 with ⟨he, h0⟩ | ⟨g, cap, cur, he, hb, hg, h1, h2, _⟩
 · injection he with _ _ hc
   subst hc
   exact ⟨by omega, by omega, fun hl => by omega⟩
 · injection he with hA _ hc
   subst hA; subst hc
   refine ⟨h1, by unfold maxLen at h2; omega, fun hl => ⟨g, 0, rfl, hlt _ Z, fun i n hn => ?_⟩⟩
   obtain ⟨hi, _⟩ := List.getElem?_eq_some_iff.1 hn
   have hu : ∃ u, vs[i]? = some u := ⟨vs[i]'(by rw [h.len]; exact hi), by simp⟩
   obtain ⟨u, hu⟩ := hu
   have hint := h.ints i n u hn hu
   have hcell : ∀ j x, j < 7 → (av n u)[j]? = some x → w.cell? ⟨g, 0 + i * 7 + j, none⟩ = some x := fun j x hj hx => by
    have := hrow.cells (g := g) rfl (i * 7 + j) x (by rw [fo l vs i j n u h.len hn hu hj]; exact hx)
    have e : (⟨g, 0, none⟩ : Addr).add (i * 7 + j) = ⟨g, i * 7 + j, none⟩ := by unfold Addr.add; split <;> simp_all
    rw [e] at this
    rw [Nat.zero_add]; exact this
   obtain ⟨A6, c6, rfl, hA6, h6, h6'⟩ := rE hint
   have hrn := hr n (List.mem_of_getElem? hn)
   refine ⟨hcell 0 _ (by omega) Z, hcell 1 _ (by omega) Z, hcell 2 _ (by omega) Z, hcell 3 _ (by omega) Z, hcell 4 _ (by omega) Z, hcell 5 _ (by omega) Z, ⟨A6, c6, hcell 6 _ (by omega) Z, hrn.2, h6, by unfold maxLen at h6'; omega, fun hl => ?_⟩, hrn.1⟩
   rcases hint.2 with ⟨he, h0⟩ | ⟨g6, cap6, cur6, he, _⟩
   · omega
   · injection he with hA _ _
     subst hA
     refine ⟨g6, 0, rfl, hlts i _ hu _ Z, fun j x hx => ?_⟩
     have := hint.cells (g := g6) rfl j (.int .i64 x) (by simp [bp, hx])
     have e : (⟨g6, 0, none⟩ : Addr).add j = ⟨g6, j, none⟩ := by unfold Addr.add; split <;> simp_all
     rw [e] at this
     rw [Nat.zero_add]; exact this
theorem pw (nd : FK.Node) (A : Option Addr) (n c : Nat) (k : Int) (seed : Nat) (h1 : 1 ≤ nd.base) (h2 : nd.base ≤ nd.cap) (h3 : nd.cap ≤ 1048576) (h4 : 0 ≤ nd.CK) (h5 : nd.CK ≤ 1048576) (hs : seed < 18446744073709551616) : Does Tryz.prog G 136 [.agg (av nd (.slice A n c)).toArray, .int .i64 k, .int .u64 seed].toArray [] fun v m => v = .int .i64 (eY nd.base nd.cap nd.CK k seed) ∧ m = [] :=
 (eJ (φ := fun _ => True) fun _ w _ _ _ => mY nd.CJ nd.close nd.beat nd.base nd.cap nd.CK A n c k seed w h1 h2 h3 h4 h5 (by omega) (by omega)).does
theorem xA {e : Nat} {p : EA} {S : FK.En} {id n : Nat} {R : FK.Rn} {w : World} {F : Nat → Prop} (hR : S.getR id = some R) (h : (ap e p S).sat w F) (hF : ∀ k, F k → k < n) (hr : ∀ n ∈ R.fl.CG, (i64 n.CJ ∧ i64 n.close ∧ i64 n.beat ∧ i64 n.base ∧ i64 n.cap ∧ i64 n.CK) ∧ ∀ x ∈ n.after, i64 x) : NodesAt w n (some ⟨(p.ra id).gn, 0, none⟩) (p.ra id).cn R.fl.CG := by
 have h0 : Star w (iL e p S) F := h
 have h1 : Star w (eV p S.runs) F := Star.mem (p := ek p S.runs) h0 (by simp)
 have h2 : (iC (p.fb id) (p.ra id) R).sat w F := Star.mem h1 (List.mem_map.2 ⟨(id, R), nO hR, rfl⟩)
 have h3 : Star w (lS (p.fb id) (p.ra id) R) F := h2
 have hlen : (p.ra id).vs.length = R.fl.CG.length := Star.mem (p := HP.pure ((p.ra id).vs.length = R.fl.CG.length)) h3 (by simp)
 have hrow := Star.mem (p := row 46 7 ((p.ra id).nv R) R.fl.CG.length (aZ R.fl.CG (p.ra id).vs)) h3 (by simp)
 have hafts : Star w (bf (p.ra id).vs R.fl.CG) F := Star.mem (p := dY (p.ra id).vs R.fl.CG) h3 (by simp)
 have hint : ∀ (i : Nat) (nd : FK.Node) (u : Value), R.fl.CG[i]? = some nd → (p.ra id).vs[i]? = some u → (aF u nd.after).sat w F := fun i nd u hi hu => by
  have hz : ((p.ra id).vs.zip R.fl.CG)[i]? = some (u, nd) := by simp [List.getElem?_zip_eq_some, hi, hu]
  exact Star.mem hafts (List.mem_map.2 ⟨(u, nd), List.mem_of_getElem? hz, rfl⟩)
 have hown : OwnNodes w 0 ((p.ra id).nv R) R.fl.CG (p.ra id).vs := ⟨hlen, hrow.1, fun i nd u hi hu => (hint i nd u hi hu).1⟩
 refine hown.nodesAtB (fun g hg => hF g (hrow.2 g hg)) (fun i u hu g hg => ?_) hr
 have hil : i < R.fl.CG.length := by rw [← hlen]; exact (List.getElem?_eq_some_iff.1 hu).1
 exact hF g ((hint i R.fl.CG[i] u (List.getElem?_eq_getElem hil) hu).2 g hg)
end Go.Proofs.YtmeegfamopaljaaGreatDoor
