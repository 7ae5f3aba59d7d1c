/- flowkeeperkeep's meets: each event of a run that is watched. -/
import Derived.Test.YtmeegfamopaljaaGreatDoorHnK
namespace FK
structure HonSt (F : Flow) (l : List (List UInt8)) (S : En) (R : Rn) (rds : List Nat) (ts : List Hd) (i : Nat) : Prop where
 seen : Seen 2 F S R (fun k => rds.getD k 0) ts
 lg : Lg (3000 + 40 * i) l S
 few : Few i S
 len : rds.length = F.CG.length
 tsl : ts.length ≤ i
section
variable {F : Flow} {l : List (List UInt8)} {S : En} {R : Rn} {rds : List Nat} {ts : List Hd} {i : Nat}
theorem HonSt.fine (h : HonSt F l S R rds ts i) (hi : i ≤ 1000000) : Fine S := h.few.fine h.seen.lone.ok (by omega)
theorem HonSt.next (h : HonSt F l S R rds ts i) : HonSt F l S R rds ts (i + 1) := ⟨h.seen, h.lg.mono (by omega), h.few.mono (Nat.le_succ _), h.len, by have := h.tsl; omega⟩
theorem HonSt.poll (h : HonSt F l S R rds ts i) (hi : i ≤ 1000000) {k : Nat} {q : List Pl} {s : Sp} {n : Node} (hq : S.CH = ⟨2, (k : Int), 0⟩ :: q) (hs : R.CF[k]? = some s) (h2 : s.state = 2) (hn : R.fl.CG[k]? = some n) :
 HonSt F (l ++ [aV 2 0]) (S.hand ⟨2, (k : Int), 0⟩ q R s n) (R.setS k ⟨3, s.CE + 1, S.CC + 1⟩) rds (ts ++ [⟨k, s.CE + 1, S.CC + 1⟩]) (i + 1) ∧ Wt R (R.setS k ⟨3, s.CE + 1, S.CC + 1⟩) ∧ rds.getD k 0 ≤ S.now ∧ (∀ a ∈ ts, a.tok ≠ S.CC + 1) := by
 obtain ⟨h1, h2', h3, h4, h5⟩ := h.seen.poll hq hs h2 hn
 have hm := h.seen.lone.ok.hand_mv hq h.seen.lone.get hs hn h.seen.lone.hon
 refine ⟨⟨h1, (h.lg.note (h.fine hi) (by decide) (Redo.poll hq h.seen.lone.get hs hn)).mono (by omega), ⟨?_, ?_, ?_, ?_, ?_⟩, h.len, by have := h.tsl; simp; omega⟩, h2', h3, h4⟩
 · have := h.few.sets; have := hm.sets; omega
 · have := h.few.ends; have := hm.ends; omega
 · have := h.few.tok; omega
 · rw [hm.CD]; exact h.few.run
 · rw [hm.now]; have := h.few.now; omega
theorem HonSt.complete (h : HonSt F l S R rds ts i) (hi : i ≤ 1000000) {t k : Nat} {s : Sp} (hlt : t < 18446744073709551616) (ht : (S.CI.find? (·.1 == t)).map (·.2) = some ⟨2, (k : Int), 0⟩) (hs : R.CF[k]? = some s) (h3 : s.state = 3) : ∃ R', HonSt F (l ++ [aV 4 t]) (S.complete t) R' rds ts (i + 1) ∧ Wt R R' := by
 obtain ⟨R', h1, h2⟩ := h.seen.complete ht hs h3
 obtain ⟨R2, hm, -⟩ := h.seen.lone.ok.complete_mv ht h.seen.lone.get hs h3 h.seen.lone.hon
 refine ⟨R', ⟨h1, (h.lg.note (h.fine hi) hlt (Redo.complete hlt ht)).mono (by omega), ⟨?_, ?_, ?_, ?_, ?_⟩, h.len, by have := h.tsl; omega⟩, h2⟩
 · have := h.few.sets; have := hm.sets; omega
 · have := h.few.ends; have := hm.ends; omega
 · have := h.few.tok; have := hm.CC; omega
 · rw [hm.CD]; exact h.few.run
 · rw [hm.now]; have := h.few.now; omega
theorem HonSt.fail (h : HonSt F l S R rds ts i) (hi : i ≤ 1000000) {t k : Nat} {s : Sp} (hlt : t < 18446744073709551616) (ht : (S.CI.find? (·.1 == t)).map (·.2) = some ⟨2, (k : Int), 0⟩) (hs : R.CF[k]? = some s) (h3 : s.state = 3) {n : Node} (hn : F.CG[k]? = some n) : ∃ R', HonSt F (l ++ [aV 5 t]) (S.fail t) R' (rds.set k (S.now + (dk n.base n.cap n.CK s.CE 0).toNat)) ts (i + 1) ∧ Wt R R' := by
 have hL := h.seen.lone
 have hn1 : R.fl.CG[k]? = some n := by rw [hL.fl]; exact hn
 have hno := ((hL.ok.run 2 R hL.get).fl.CG k n (bU hn1) hn1).1
 obtain ⟨hw1, hw2⟩ := od n hno s.CE
 obtain ⟨_, _, _, _, _, ⟨_, hc⟩, _⟩ := hno
 have hnw := h.few.now
 have hkl : k < rds.length := by rw [h.len]; exact bU hn
 obtain ⟨R', h1, h2⟩ := h.seen.fail (rd' := fun j => (rds.set k (S.now + (dk n.base n.cap n.CK s.CE 0).toNat)).getD j 0) ht hs h3 hn (by omega) (fun j hj => by
  show (rds.set k _).getD j 0 = rds.getD j 0
  rw [List.getD_eq_getElem?_getD, List.getD_eq_getElem?_getD, List.getElem?_set_ne (Ne.symm hj)]) (by
  show (rds.set k _).getD k 0 = _
  rw [List.getD_eq_getElem?_getD, List.getElem?_set_self hkl]
  rfl)
 obtain ⟨R2, s2, n2, hn2, hs2, htr2, hst2, new, hm, -⟩ := hL.failed hs h3
 rw [← li ht] at hm
 refine ⟨R', ⟨h1, (h.lg.note (h.fine hi) hlt (Redo.fail hlt ht)).mono (by omega), ⟨?_, ?_, ?_, ?_, ?_⟩, by rw [List.length_set]; exact h.len, by have := h.tsl; omega⟩, h2⟩
 · have := h.few.sets; have := hm.sets; omega
 · have := h.few.ends; have := hm.ends; omega
 · have := h.few.tok; have := hm.CC; omega
 · rw [hm.CD]; exact h.few.run
 · rw [hm.now]; have := h.few.now; omega
theorem HonSt.beat (h : HonSt F l S R rds ts i) (hi : i ≤ 1000000) {t k : Nat} {s : Sp} (hlt : t < 18446744073709551616) (ht : (S.CI.find? (·.1 == t)).map (·.2) = some ⟨2, (k : Int), 0⟩) (hs : R.CF[k]? = some s) (h3 : s.state = 3) {n : Node} (hn : R.fl.CG[k]? = some n) : HonSt F (l ++ [aV 3 t]) (S.life ⟨2, (k : Int), 0⟩ n) R rds ts (i + 1) := by
 have h1 := h.seen.beat (wh := 0) (n := n) hs h3
 have hm := oK (wh := 0) n h.seen.lone.get hs h.seen.lone.hon
 refine ⟨h1, (h.lg.note (h.fine hi) hlt (Redo.beat hlt ht h.seen.lone.get hn)).mono (by omega), ⟨?_, ?_, ?_, ?_, ?_⟩, h.len, by have := h.tsl; omega⟩
 · have := h.few.sets; have := hm.sets; omega
 · have := h.few.ends; have := hm.ends; omega
 · have := h.few.tok; have := hm.CC; omega
 · rw [hm.CD]; exact h.few.run
 · rw [hm.now]; have := h.few.now; omega
theorem HonSt.tick (h : HonSt F l S R rds ts i) (hi : i ≤ 1000000) {n : Nat} (hn : n ≤ 100) {U : En} (ht : Ticks (S.later n) S U) : ∃ R', HonSt F (l ++ [aV 7 n]) U R' rds ts (i + 1) ∧ Wt R R' := by
 obtain ⟨R', h1, h2, h3, -⟩ := h.seen.tick ht
 obtain ⟨b1, b2, b3, b4⟩ := ht.bound h.seen.lone.ok
 have hmass := h.seen.lone.ok.massLe
 have hup := zu S n
 refine ⟨R', ⟨h1, (h.lg.note (h.fine hi) (by omega) (Redo.tick (by omega) ht)).mono (by omega), ⟨?_, ?_, ?_, ?_, ?_⟩, h.len, by have := h.tsl; omega⟩, h2⟩
 · have := h.few.sets; omega
 · have := h.few.ends; omega
 · have := h.few.tok; omega
 · rw [b4]; exact h.few.run
 · rw [h3]; have := h.few.now; omega
end
end FK
namespace FK
theorem sh (n : Node) (h : cM n) (k : Int) : n.base ≤ dk n.base n.cap n.CK k 0 := by
 obtain ⟨_, _, _, _, ⟨h1, _⟩, ⟨h2, _⟩, ⟨h3, _⟩⟩ := h
 unfold dk
 have h0 : (0 : Int) % (n.CK + 1) = 0 := Int.zero_emod _
 rw [h0]
 split
 · omega
 · split
   · have hp : (1 : Int) ≤ 2 ^ (k.toNat - 1) := by
      have := Nat.one_le_two_pow (n := k.toNat - 1)
      exact_mod_cast this
     have : n.base * 1 ≤ n.base * 2 ^ (k.toNat - 1) := Int.mul_le_mul_of_nonneg_left hp (by omega)
     omega
   · omega
end FK
namespace Go.Proofs.YtmeegfamopaljaaGreatDoor
open Go Go.RowKit Go.SL
def dD : List FK.Hd → List Value
 | [] => []
 | a :: l => bh 2 a.node a.tri a.tok ++ dD l
abbrev q6 (A : Option Addr) (c : Nat) (ts : List FK.Hd) : HP := row 55 4 (.slice A ts.length c) ts.length (dD ts)
theorem mw : ∀ (l : List FK.Hd) (a : FK.Hd), dD (l ++ [a]) = dD l ++ bh 2 a.node a.tri a.tok
 | [], a => by simp [dD]
 | b :: l, a => by
  show bh 2 b.node b.tri b.tok ++ dD (l ++ [a]) = _
  rw [mw l a, ← List.append_assoc]
  rfl
theorem nG : ∀ {l : List FK.Hd} {k : Nat} {a : FK.Hd}, l[k]? = some a → ∀ (j : Nat) (u : Value), (bh 2 a.node a.tri a.tok)[j]? = some u → (dD l)[k * 4 + j]? = some u
 | [], _, _, h, _, _, _ => by simp at h
 | b :: l, 0, a, h, j, u, hu => by
  simp at h
  subst h
  show (bh 2 b.node b.tri b.tok ++ dD l)[0 * 4 + j]? = _
  have hj := (List.getElem?_eq_some_iff.1 hu).1
  rw [List.getElem?_append_left (by simpa using hj)]
  simpa using hu
 | b :: l, k + 1, a, h, j, u, hu => by
  show (bh 2 b.node b.tri b.tok ++ dD l)[(k + 1) * 4 + j]? = _
  rw [List.getElem?_append_right (by simp; omega)]
  rw [show (k + 1) * 4 + j - (bh 2 b.node b.tri b.tok).length = k * 4 + j by simp; omega]
  exact nG (by simpa using h) j u hu
theorem AR {l : List Nat} {k : Nat} {x : Nat} (h : l[k]? = some x) : (cP l)[0 + k * 1]? = some (aY x) := by
 simp [cP, h]
theorem zg {l : List Nat} {k : Nat} {x : Nat} : (cP l).set (0 + k * 1) (aY x) = cP (l.set k x) := by
 simp [cP, List.map_set]
set_option maxRecDepth 20000 in
set_option maxHeartbeats 10000000 in
theorem uz {w h f e j d : Nat} {p : EA} {S : FK.En} {R : FK.Rn} {l : List (List UInt8)} {dl kind N kept : Int} {ns : List FK.Node} {A : Option Addr} {c i : Nat} {tv rv yv iv jv : Value} {rds : List Nat} {ts : List FK.Hd}
 (hH : FK.HonSt ⟨dl, ns⟩ l S R rds ts i) (hi : i ≤ 400) (hkind : i64 kind) (hN : i64 N) :
 Does Tryz.prog Good 16 [aO w, .agg #[.int .i64 kind, .int .i64 N, .int .i64 kept]].toArray (fO h f e j d p S l ++ [dj w h dl (.slice A ns.length c) 2 tv rv yv 2 R.state iv jv, row 55 4 tv ts.length (dD ts), cL rv rds, aF yv (R.CF.map (·.CE)), aF iv (R.CF.map (·.state)), aF jv (R.CF.map (·.CE)), nodesOwn (.slice A ns.length c) ns])
  fun v m => v = .bool true ∧ ∃ f' e' j' p' S' R' l' rds' ts' tv' rv', FK.HonSt ⟨dl, ns⟩ l' S' R' rds' ts' (i + 1) ∧ FK.Wt R R' ∧ m = fO h f' e' j' d p' S' l' ++ [dj w h dl (.slice A ns.length c) 2 tv' rv' yv 2 R.state iv jv, row 55 4 tv' ts'.length (dD ts'), cL rv' rds', aF yv (R.CF.map (·.CE)), aF iv (R.CF.map (·.state)), aF jv (R.CF.map (·.CE)), nodesOwn (.slice A ns.length c) ns] := by
 have hL := hH.seen.lone
 have hro := hL.ok.run 2 R hL.get
 have hlen : R.CF.length = ns.length := by rw [hro.len, hL.fl]
 have hfit : FK.Fit ⟨dl, ns⟩ := by have := hro.fl; rwa [hL.fl] at this
 have h12 : ns.length ≤ 12 := hfit.head.2.2
 have h1n : 1 ≤ ns.length := hfit.head.2.1
 have hstl : (R.CF.map (·.state)).length = R.CF.length := by rw [List.length_map]
 have htrl : (R.CF.map (·.CE)).length = R.CF.length := by rw [List.length_map]
 have hrl : rds.length = ns.length := hH.len
 have f1 := hH.few.sets
 have f2 := hH.few.ends
 have f3 := hH.few.tok
 have f4 := hH.few.now
 have f5 := hH.tsl
 have hroom := pH hH.lg (by omega)
 have hquiet := FK.kc l
 refine Does.body Tryz.func16 Z Z fun E fr hE => ?_
 refine At.ent (l' := aW h d f :: cD f e j :: ap e p S :: au j d FK.J0 :: ak d (FK.cw l 1) :: dj w h dl (.slice A ns.length c) 2 tv rv yv 2 R.state iv jv :: row 55 4 tv ts.length (dD ts) :: cL rv rds :: aF yv (R.CF.map (·.CE)) :: aF iv (R.CF.map (·.state)) :: aF jv (R.CF.map (·.CE)) :: nodesOwn (.slice A ns.length c) ns :: fr) (Ent.refl _) ?_
 refine aC (.tail (.tail (.tail (.tail (.tail (.tail (.head))))))) ?_
 rintro Aq cq rfl hnt hft - hct -
 refine aC (.tail (.tail (.tail (.tail (.tail (.tail (.tail (.head)))))))) ?_
 rintro Ar cr rfl hnr hfr - - -
 obtain ⟨gr, rfl⟩ : ∃ g, Ar = some ⟨g, 0, none⟩ := by
  cases Ar with
  | none => have := (hnr rfl).1; omega
  | some ad => obtain ⟨g, rfl⟩ := hfr ad rfl; exact ⟨g, rfl⟩
 refine aC (.tail (.tail (.tail (.tail (.tail (.tail (.tail (.tail (.head))))))))) ?_
 intro Ay cy hyv hny hfy _ _ _
 rw [htrl] at hyv hny
 subst hyv
 obtain ⟨gy, rfl⟩ : ∃ g, Ay = some ⟨g, 0, none⟩ := by
  cases Ay with
  | none => have := (hny rfl).1; omega
  | some ad => obtain ⟨g, rfl⟩ := hfy ad rfl; exact ⟨g, rfl⟩
 refine aC (.tail (.tail (.tail (.tail (.tail (.tail (.tail (.tail (.tail (.head)))))))))) ?_
 intro Ai ci hiv hni hfi _ _ _
 rw [hstl] at hiv hni
 subst hiv
 obtain ⟨gi, rfl⟩ : ∃ g, Ai = some ⟨g, 0, none⟩ := by
  cases Ai with
  | none => have := (hni rfl).1; omega
  | some ad => obtain ⟨g, rfl⟩ := hfi ad rfl; exact ⟨g, rfl⟩
 refine aC (.tail (.tail (.tail (.tail (.tail (.tail (.tail (.tail (.tail (.tail (.head))))))))))) ?_
 intro Aj cj hjv hnj hfj _ _ _
 rw [htrl] at hjv hnj
 subst hjv
 obtain ⟨gj, rfl⟩ : ∃ g, Aj = some ⟨g, 0, none⟩ := by
  cases Aj with
  | none => have := (hnj rfl).1; omega
  | some ad => obtain ⟨g, rfl⟩ := hfj ad rfl; exact ⟨g, rfl⟩
 refine At.ent (l' := aW h d f :: cD f e j :: ap e p S :: au j d FK.J0 :: ak d (FK.cw l 1) :: bW w h dl (.slice A ns.length c) (.slice Aq ts.length cq) gr rds cr gy R cy gi ci gj cj :: q6 Aq cq ts :: row 51 1 (sX gr rds.length cr) rds.length (cP rds) :: q3 gy R cy (·.CE) :: q3 gi R ci (·.state) :: q3 gj R cj (·.CE) :: nodesOwn (.slice A ns.length c) ns :: fr) (by show Ent (aW h d f :: cD f e j :: ap e p S :: au j d FK.J0 :: ak d (FK.cw l 1) :: bW w h dl (.slice A ns.length c) (.slice Aq ts.length cq) gr rds cr gy R cy gi ci gj cj :: q6 Aq cq ts :: row 51 1 (sX gr rds.length cr) rds.length (cP rds) :: row 3 1 _ (R.CF.map (·.CE)).length _ :: row 3 1 _ (R.CF.map (·.state)).length _ :: row 3 1 _ (R.CF.map (·.CE)).length _ :: nodesOwn (.slice A ns.length c) ns :: fr) _; rw [htrl, hstl]; exact Ent.refl _) ?_
 refine At.seq (At.region (L.op Z (cb Z Z fun b3 => (L.as Z Z (L.nil (At.then (At.seq ?_)))))))
 refine At.ent (l' := aW h d f :: cD f e j :: ap e p S :: au j d FK.J0 :: ak d (FK.cw l 1) :: blk b3 36 #[.int .i64 kind, .int .i64 N, .int .i64 kept] :: bW w h dl (.slice A ns.length c) (.slice Aq ts.length cq) gr rds cr gy R cy gi ci gj cj :: q6 Aq cq ts :: row 51 1 (sX gr rds.length cr) rds.length (cP rds) :: q3 gy R cy (·.CE) :: q3 gi R ci (·.state) :: q3 gj R cj (·.CE) :: nodesOwn (.slice A ns.length c) ns :: fr) (by show Ent (blk b3 36 #[.int .i64 kind, .int .i64 N, .int .i64 kept] :: _) _; exact al) ?_
 refine At.region (L.mv Z Z (aR Z Z (aI 0 Z Z Z (bd Z Z Z Z ?_))))
 refine L.op Z (ah Z Z Z hE sU (Ent.refl _) ?_)
 rintro v m ⟨rfl, rfl⟩
 refine bF (L.mv Z Z (L.ex Z Z Z (L.ex Z Z Z (L.as Z Z (L.as Z Z (L.nil (At.then (At.seq (At.region (L.pure Z (bn (ps := []) (vs := []) (cs := (bh 0 0 0 0).toArray) Z Z Z Z Z) (L.op Z (aN (z := .agg #[.int .u64 0, .int .i64 0, .int .i64 0, .int .u64 0]) Z Z fun b7 => ?_))))))))))))
 refine L.op Z (aK Z (m := 4) (vs := bh 0 0 0 0) Z Z Z Z (by simp [Value.oneCell']) (by show 0 + 4 ≤ 4; omega) ?_)
 refine aD b7 (bh 0 0 0 0).toArray Z ?_
 refine At.ent (l' := aW h d f :: cD f e j :: ap e p S :: au j d FK.J0 :: ak d (FK.cw l 1) :: blk b7 55 (bh 0 0 0 0).toArray :: blk b3 36 #[.int .i64 kind, .int .i64 N, .int .i64 kept] :: bW w h dl (.slice A ns.length c) (.slice Aq ts.length cq) gr rds cr gy R cy gi ci gj cj :: q6 Aq cq ts :: row 51 1 (sX gr rds.length cr) rds.length (cP rds) :: q3 gy R cy (·.CE) :: q3 gi R ci (·.state) :: q3 gj R cj (·.CE) :: nodesOwn (.slice A ns.length c) ns :: fr) al ?_
 refine L.nil (At.then ?_)
 refine At.seq (At.cut (X := Nat × FK.Hd) (fun x => [(7, aO b7), (5, aY S.now), (4, .bool false), (3, aO b3), (0, aO w)]) (fun x => aW h d f :: cD f e j :: ap e p S :: au j d FK.J0 :: ak d (FK.cw l 1) :: blk b7 55 (bh x.1 x.2.node x.2.tri x.2.tok).toArray :: blk b3 36 #[.int .i64 kind, .int .i64 N, .int .i64 kept] :: bW w h dl (.slice A ns.length c) (.slice Aq ts.length cq) gr rds cr gy R cy gi ci gj cj :: q6 Aq cq ts :: row 51 1 (sX gr rds.length cr) rds.length (cP rds) :: q3 gy R cy (·.CE) :: q3 gi R ci (·.state) :: q3 gj R cj (·.CE) :: nodesOwn (.slice A ns.length c) ns :: fr) (fun x => x.2 ∈ ts ∨ x.2 = ⟨0, 0, 0⟩) ?_ ?_)
 ·
  refine At.seq (At.region (L.mv Z Z (aR Z Z (aI 4 Z Z Z (bd Z Z Z Z (L.pure Z (aM Z Z) (L.pure Z (cG Z Z Z) (L.nil (At.then ?_)))))))))
  refine aE Z (fun c34 => ?_) (fun c34 => ?_)
  ·
   have hpos : 0 < ts.length := by have : (ts.length : Int) > 0 := c34; omega
   obtain ⟨gt, rfl⟩ : ∃ g, Aq = some ⟨g, 0, none⟩ := by
    cases Aq with
    | none => have := (hnt rfl).1; omega
    | some ad => obtain ⟨g, rfl⟩ := hft ad rfl; exact ⟨g, rfl⟩
   refine Dr.start Z (dP 0 Z Z (ae Z) (dP 1 Z Z (am Z) (dP 2 Z Z (ab (off := 4) Z Z) (dL 3 Z Z (aa Z Z) (ag Z) (dP 4 Z Z (ae Z) (dP 5 Z Z (am Z) (dP 6 Z Z (ab (off := 4) Z Z) (dL 7 Z Z (aa Z Z) (ag Z) (dP 8 Z Z (aM Z Z) (dP 9 Z Z (eu (r := ((ts.length - 1 : Nat) : Int)) Z Z (by rw [dd (by omega)]; omega)) (dP 10 Z Z (ab (off := 1) Z Z) (dL 11 Z Z (aa Z Z) (ag Z) (dP 12 Z Z (ae Z) (dP 13 Z Z (am Z) (dP 14 Z Z (ab (off := 4) Z Z) (dL 15 Z Z (aa Z Z) (ag Z) (dP 16 Z Z (aM Z Z) ?_)))))))))))))))))
   refine dR 17 Z Z (ah Z Z Z hE (di N ts.length hN hpos (by omega)) (Ent.refl _) ?_)
   rintro v m ⟨kp, rfl, ⟨hk0, hk1⟩, rfl⟩
   refine aL ?_
   obtain ⟨kn, rfl⟩ : ∃ n : Nat, kp = n := ⟨kp.toNat, by omega⟩
   have hkl : ts.length - 1 - kn < ts.length := by omega
   obtain ⟨a, hta⟩ : ∃ a, ts[ts.length - 1 - kn]? = some a := ⟨ts[ts.length - 1 - kn], List.getElem?_eq_getElem hkl⟩
   refine dK [true, false, true, true] (Kept.cons (ag Z) (Kept.cons (ag Z) (Kept.cons (ag Z) Kept.nil))) (dP 18 Z Z (eu (r := ((ts.length - 1 - kn : Nat) : Int)) Z Z (by rw [dd (by omega)]; omega)) (dP 19 Z Z (aT (z := 4) Z Z Z Z hkl) ?_))
   refine dL 20 Z Z (ao (vs := bh 2 a.node a.tri a.tok) Z Z Z Z) (nq (.tail (.tail (.tail (.tail (.tail (.tail (.tail (.tail (.head))))))))) fun j u hj => by rw [Nat.zero_add]; exact nG hta j u hj) ?_
   refine dR 21 Z Z (aK Z (m := 4) (vs := bh 2 a.node a.tri a.tok) Z Z Z Z (by simp [Value.oneCell']) (by show 0 + 4 ≤ 4; omega) ?_)
   exact aD b7 (bh 2 a.node a.tri a.tok).toArray Z (dK [false, false, false, false] Kept.nil (dE (bb (2, a) (.inl (List.mem_of_getElem? hta)) ⟨rfl, rfl, rfl, rfl, rfl, trivial⟩ al)))
  ·
   exact At.skip (bb (0, ⟨0, 0, 0⟩) (.inr Z) ⟨rfl, rfl, rfl, rfl, rfl, trivial⟩ (Ent.refl _))
 rintro ⟨rn, a⟩ ha
 replace ha : a ∈ ts ∨ a = ⟨0, 0, 0⟩ := ha
 refine At.ent (l' := aW h d f :: cD f e j :: ap e p S :: au j d FK.J0 :: ak d (FK.cw l 1) :: blk b7 55 (bh rn a.node a.tri a.tok).toArray :: blk b3 36 #[.int .i64 kind, .int .i64 N, .int .i64 kept] :: bW w h dl (.slice A ns.length c) (.slice Aq ts.length cq) gr rds cr gy R cy gi ci gj cj :: q6 Aq cq ts :: row 51 1 (sX gr rds.length cr) rds.length (cP rds) :: q3 gy R cy (·.CE) :: q3 gi R ci (·.state) :: q3 gj R cj (·.CE) :: nodesOwn (.slice A ns.length c) ns :: fr) (Ent.refl _) ?_
 refine At.seq (At.cut (X := Bool) (fun x => [(8, .bool x), (7, aO b7), (5, aY S.now), (4, .bool false), (3, aO b3), (0, aO w)]) (fun _ => aW h d f :: cD f e j :: ap e p S :: au j d FK.J0 :: ak d (FK.cw l 1) :: blk b7 55 (bh rn a.node a.tri a.tok).toArray :: blk b3 36 #[.int .i64 kind, .int .i64 N, .int .i64 kept] :: bW w h dl (.slice A ns.length c) (.slice Aq ts.length cq) gr rds cr gy R cy gi ci gj cj :: q6 Aq cq ts :: row 51 1 (sX gr rds.length cr) rds.length (cP rds) :: q3 gy R cy (·.CE) :: q3 gi R ci (·.state) :: q3 gj R cj (·.CE) :: nodesOwn (.slice A ns.length c) ns :: fr) (fun x => (x = true ↔ a ∈ ts ∧ ∃ s, R.CF[a.node]? = some s ∧ s.state = 3 ∧ s.CE = a.tri)) ?_ ?_)
 ·
  by_cases HZ : a.tok = 0
  ·
   refine Dr.start Z (dP 0 Z Z (ab (off := 3) Z Z) (dL 1 Z Z (aa Z Z) (ag Z) (dP 2 Z Z (cG (r := false) Z Z (decide_eq_false (by omega))) (dP 3 Z Z (ae Z) (dS 4 Z Z Z Z Z Z Z (dS 5 Z Z Z Z Z Z Z (dS 6 Z Z Z Z Z Z Z (dS 7 Z Z Z Z Z Z Z (dS 8 Z Z Z Z Z Z Z (dS 9 Z Z Z Z Z Z Z (dS 10 Z Z Z Z Z Z Z (dS 11 Z Z Z Z Z Z Z (dS 12 Z Z Z Z Z Z Z (dS 13 Z Z Z Z Z Z Z (dP 14 Z Z (aq Z Z Z) (dP 15 Z Z (ae Z) (dS 16 Z Z Z Z Z Z Z (dS 17 Z Z Z Z Z Z Z (dS 18 Z Z Z Z Z Z Z ?_)))))))))))))))))))
   refine dS 19 Z Z Z Z Z Z Z (dS 20 Z Z Z Z Z Z Z (dS 21 Z Z Z Z Z Z Z (dS 22 Z Z Z Z Z Z Z (dS 23 Z Z Z Z Z Z Z (dS 24 Z Z Z Z Z Z Z (dS 25 Z Z Z Z Z Z Z (dS 26 Z Z Z Z Z Z Z (dS 27 Z Z Z Z Z Z Z (dP 28 Z Z (aq Z Z Z) (dP 29 Z Z (ax Z) (dE ?_)))))))))))
   refine bb false ?_ ⟨rfl, rfl, rfl, rfl, rfl, rfl, trivial⟩ (Ent.refl _)
   exact ⟨fun h => (by cases h), fun ⟨ham, _⟩ => by have := (hH.seen.tsk.low a ham).1; omega⟩
  ·
   have ham : a ∈ ts := ha.resolve_right (by rintro rfl; exact HZ rfl)
   obtain ⟨-, s, hs, -⟩ := hH.seen.tsk.at_ a ham
   have hlt : a.node < R.CF.length := (List.getElem?_eq_some_iff.1 hs).1
   by_cases H3 : s.state = 3
   ·
    by_cases HT : s.CE = a.tri
    ·
     refine Dr.start Z (dP 0 Z Z (ab (off := 3) Z Z) (dL 1 Z Z (aa Z Z) (ag Z) (dP 2 Z Z (cG (r := true) Z Z (decide_eq_true (by omega))) (dP 3 Z Z (ae Z) (dG 4 Z Z Z Z (ae Z) (dG 5 Z Z Z Z (am Z) (dG 6 Z Z Z Z (ab (off := 7) Z Z) (dG 7 Z Z Z Z (ab (off := 2) Z Z) (dH 8 Z Z Z Z (aa Z Z) (ag Z) (dG 9 Z Z Z Z (ab (off := 1) Z Z) (dH 10 Z Z Z Z (aa Z Z) (ag Z) (dG 11 Z Z Z Z (aT (z := 1) Z Z Z Z hlt) (dH 12 Z Z Z Z (aa (v := .int .i64 s.state) Z Z) (bJ (.tail (.tail (.tail (.tail (.tail (.tail (.tail (.tail (.tail (.tail (.tail (.head)))))))))))) (er hs)) (dG 13 Z Z Z Z (aH (r := true) Z Z (decide_eq_true H3)) (dP 14 Z Z (aq Z Z Z) (dP 15 Z Z (ae Z) (dG 16 Z Z Z Z (ae Z) (dG 17 Z Z Z Z (am Z) (dG 18 Z Z Z Z (ab (off := 7) Z Z) ?_)))))))))))))))))))
     refine dG 19 Z Z Z Z (ab (off := 3) Z Z) (dH 20 Z Z Z Z (aa Z Z) (ag Z) (dG 21 Z Z Z Z (ab (off := 1) Z Z) (dH 22 Z Z Z Z (aa Z Z) (ag Z) (dG 23 Z Z Z Z (aT (z := 1) Z Z Z Z hlt) (dH 24 Z Z Z Z (aa (v := .int .i64 s.CE) Z Z) (bJ (.tail (.tail (.tail (.tail (.tail (.tail (.tail (.tail (.tail (.tail (.tail (.tail (.head))))))))))))) (kG hs)) (dG 25 Z Z Z Z (ab (off := 2) Z Z) (dH 26 Z Z Z Z (aa Z Z) (ag Z) (dG 27 Z Z Z Z (aH (r := true) Z Z (decide_eq_true HT)) (dP 28 Z Z (aq Z Z Z) (dP 29 Z Z (ax Z) (dE ?_)))))))))))
     exact bb true ⟨fun _ => ⟨ham, s, hs, H3, HT⟩, fun _ => rfl⟩ ⟨rfl, rfl, rfl, rfl, rfl, rfl, trivial⟩ (Ent.refl _)
    ·
     refine Dr.start Z (dP 0 Z Z (ab (off := 3) Z Z) (dL 1 Z Z (aa Z Z) (ag Z) (dP 2 Z Z (cG (r := true) Z Z (decide_eq_true (by omega))) (dP 3 Z Z (ae Z) (dG 4 Z Z Z Z (ae Z) (dG 5 Z Z Z Z (am Z) (dG 6 Z Z Z Z (ab (off := 7) Z Z) (dG 7 Z Z Z Z (ab (off := 2) Z Z) (dH 8 Z Z Z Z (aa Z Z) (ag Z) (dG 9 Z Z Z Z (ab (off := 1) Z Z) (dH 10 Z Z Z Z (aa Z Z) (ag Z) (dG 11 Z Z Z Z (aT (z := 1) Z Z Z Z hlt) (dH 12 Z Z Z Z (aa (v := .int .i64 s.state) Z Z) (bJ (.tail (.tail (.tail (.tail (.tail (.tail (.tail (.tail (.tail (.tail (.tail (.head)))))))))))) (er hs)) (dG 13 Z Z Z Z (aH (r := true) Z Z (decide_eq_true H3)) (dP 14 Z Z (aq Z Z Z) (dP 15 Z Z (ae Z) (dG 16 Z Z Z Z (ae Z) (dG 17 Z Z Z Z (am Z) (dG 18 Z Z Z Z (ab (off := 7) Z Z) ?_)))))))))))))))))))
     refine dG 19 Z Z Z Z (ab (off := 3) Z Z) (dH 20 Z Z Z Z (aa Z Z) (ag Z) (dG 21 Z Z Z Z (ab (off := 1) Z Z) (dH 22 Z Z Z Z (aa Z Z) (ag Z) (dG 23 Z Z Z Z (aT (z := 1) Z Z Z Z hlt) (dH 24 Z Z Z Z (aa (v := .int .i64 s.CE) Z Z) (bJ (.tail (.tail (.tail (.tail (.tail (.tail (.tail (.tail (.tail (.tail (.tail (.tail (.head))))))))))))) (kG hs)) (dG 25 Z Z Z Z (ab (off := 2) Z Z) (dH 26 Z Z Z Z (aa Z Z) (ag Z) (dG 27 Z Z Z Z (aH (r := false) Z Z (decide_eq_false HT)) (dP 28 Z Z (aq Z Z Z) (dP 29 Z Z (ax Z) (dE ?_)))))))))))
     refine bb false ?_ ⟨rfl, rfl, rfl, rfl, rfl, rfl, trivial⟩ (Ent.refl _)
     exact ⟨fun h => (by cases h), fun ⟨_, s2, hs2, _, ht2⟩ => by rw [hs] at hs2; injection hs2 with hs2; subst hs2; exact absurd ht2 HT⟩
   ·
    refine Dr.start Z (dP 0 Z Z (ab (off := 3) Z Z) (dL 1 Z Z (aa Z Z) (ag Z) (dP 2 Z Z (cG (r := true) Z Z (decide_eq_true (by omega))) (dP 3 Z Z (ae Z) (dG 4 Z Z Z Z (ae Z) (dG 5 Z Z Z Z (am Z) (dG 6 Z Z Z Z (ab (off := 7) Z Z) (dG 7 Z Z Z Z (ab (off := 2) Z Z) (dH 8 Z Z Z Z (aa Z Z) (ag Z) (dG 9 Z Z Z Z (ab (off := 1) Z Z) (dH 10 Z Z Z Z (aa Z Z) (ag Z) (dG 11 Z Z Z Z (aT (z := 1) Z Z Z Z hlt) (dH 12 Z Z Z Z (aa (v := .int .i64 s.state) Z Z) (bJ (.tail (.tail (.tail (.tail (.tail (.tail (.tail (.tail (.tail (.tail (.tail (.head)))))))))))) (er hs)) (dG 13 Z Z Z Z (aH (r := false) Z Z (decide_eq_false H3)) (dP 14 Z Z (aq Z Z Z) (dP 15 Z Z (ae Z) (dS 16 Z Z Z Z Z Z Z (dS 17 Z Z Z Z Z Z Z (dS 18 Z Z Z Z Z Z Z ?_)))))))))))))))))))
    refine dS 19 Z Z Z Z Z Z Z (dS 20 Z Z Z Z Z Z Z (dS 21 Z Z Z Z Z Z Z (dS 22 Z Z Z Z Z Z Z (dS 23 Z Z Z Z Z Z Z (dS 24 Z Z Z Z Z Z Z (dS 25 Z Z Z Z Z Z Z (dS 26 Z Z Z Z Z Z Z (dS 27 Z Z Z Z Z Z Z (dP 28 Z Z (aq Z Z Z) (dP 29 Z Z (ax Z) (dE ?_)))))))))))
    refine bb false ?_ ⟨rfl, rfl, rfl, rfl, rfl, rfl, trivial⟩ (Ent.refl _)
    exact ⟨fun h => (by cases h), fun ⟨_, s2, hs2, h3, _⟩ => by rw [hs] at hs2; injection hs2 with hs2; subst hs2; exact absurd h3 H3⟩
 intro wk hwk
 refine At.seq (At.seq (At.region (aI 0 Z Z Z (bd Z Z Z Z ?_))))
 refine L.op Z (ah Z Z Z hE (di kind 6 hkind (by omega) (by omega)) (Ent.refl _) ?_)
 rintro v m ⟨kq, rfl, ⟨hq0, hq1⟩, rfl⟩
 refine aL ?_
 have htok : a.tok < 18446744073709551616 := by
  rcases ha with ham | rfl
  · have := (hH.seen.tsk.low a ham).2; omega
  · decide
 have hno : wk = false → S.CI.any (·.1 == a.tok) = false := fun hw => by
  rcases ha with ham | rfl
  · obtain ⟨-, s, hs, -⟩ := hH.seen.tsk.at_ a ham
    have hiff := hH.seen.tsk.works hL ham hs
    cases hb : S.CI.any (·.1 == a.tok) with
    | false => rfl
    | true =>
     obtain ⟨h3, ht⟩ := hiff.2 hb
     have := hwk.2 ⟨ham, s, hs, h3, ht⟩
     rw [hw] at this
     cases this
  · cases hb : S.CI.any (·.1 == 0) with
    | false => rfl
    | true =>
     obtain ⟨x, hx, e⟩ := List.any_eq_true.1 hb
     have := (hL.ok.tlow x hx).1
     have e : x.1 = 0 := by simpa using e
     omega
 refine L.nil (At.then (At.block (At.seq ?_)))
 by_cases HK : kq = 0
 ·
  by_cases HQ : S.CH = []
  ·
   refine At.region (L.pure Z (aH (r := true) Z Z (decide_eq_true HK)) (L.as Z Z (L.nil (At.then (aQ Z ?_)))))
   refine At.seq (At.cut (X := Nat) (fun x => [(11, .int .i64 0), (10, .bool false), (9, aO x), (4, .bool false), (0, aO w)]) (fun x => aW h d f :: cD f e j :: ap e p S :: au j d FK.J0 :: ak d (FK.cw l 1) :: blk x 55 (bh 0 0 0 0).toArray :: bW w h dl (.slice A ns.length c) (.slice Aq ts.length cq) gr rds cr gy R cy gi ci gj cj :: q6 Aq cq ts :: row 51 1 (sX gr rds.length cr) rds.length (cP rds) :: q3 gy R cy (·.CE) :: q3 gi R ci (·.state) :: q3 gj R cj (·.CE) :: nodesOwn (.slice A ns.length c) ns :: fr) (fun _ => True) ?_ ?_)
   ·
    refine Dr.start Z (dP 0 Z Z (ae Z) (dP 1 Z Z (am Z) (dP 2 Z Z (ab (off := 0) Z Z) (dL 3 Z Z (aa Z Z) (ag Z) ?_))))
    refine gJ 4 10 Z Z Z Z (by kernel_rfl) (ah Z Z Z hE cV (Ent.refl _) ?_) (aN (z := .agg #[.int .u64 0, .int .i64 0, .int .i64 0, .int .u64 0]) Z Z fun b9 => ?_)
    ·
     rintro v m ⟨rfl, rfl⟩
     refine aL (dK [true] (Kept.cons (ag Z) Kept.nil) ?_)
     refine gJ 5 10 Z Z Z Z (by kernel_rfl) (ah Z Z Z hE (ix hquiet HQ) (by first | exact Ent.refl _ | exact ic) ?_) (aN (z := .agg #[.int .u64 0, .int .i64 0, .int .i64 0, .int .u64 0]) Z Z fun b9 => ?_)
     ·
      rintro v m ⟨rfl, rfl⟩
      refine bF (dK [false] Kept.nil (dP 6 Z Z (ae Z) (dP 7 Z Z (bc Z Z) (dP 8 Z Z (bc Z Z) (dP 9 Z Z (bc Z Z) (dR 10 Z Z (aN (z := .agg #[.int .u64 0, .int .i64 0, .int .i64 0, .int .u64 0]) Z Z fun b9 => (dK [] Kept.nil ?_))))))))
      refine dR 11 Z Z (aK Z (m := 4) (vs := bh 0 0 0 0) Z Z Z Z (by simp [Value.oneCell']) (by show 0 + 4 ≤ 4; omega) ?_)
      exact aD b9 (bh 0 0 0 0).toArray Z (dK [] Kept.nil (dP 12 Z Z (ax Z) (dP 13 Z Z (ax Z) (dE (bb b9 trivial ⟨rfl, rfl, rfl, rfl, rfl, trivial⟩ al)))))
     ·
      refine dK [true] (Kept.cons (ag Z) Kept.nil) ?_
      refine dR 5 Z Z (ah Z Z Z hE (ix hquiet HQ) (by first | exact Ent.refl _ | exact ic) ?_)
      rintro v m ⟨rfl, rfl⟩
      refine bF (dK [false] Kept.nil (dP 6 Z Z (ae Z) (dP 7 Z Z (bc Z Z) (dP 8 Z Z (bc Z Z) (dP 9 Z Z (bc Z Z) ?_)))))
      refine dR 11 Z Z (aK Z (m := 4) (vs := bh 0 0 0 0) Z Z Z Z (by simp [Value.oneCell']) (by show 0 + 4 ≤ 4; omega) ?_)
      exact aD b9 (bh 0 0 0 0).toArray Z (dK [] Kept.nil (dP 12 Z Z (ax Z) (dP 13 Z Z (ax Z) (dE (bb b9 trivial ⟨rfl, rfl, rfl, rfl, rfl, trivial⟩ al)))))
    ·
     refine dK [true] (Kept.cons (ag Z) Kept.nil) ?_
     refine dR 4 Z Z (ah Z Z Z hE cV (Ent.refl _) ?_)
     rintro v m ⟨rfl, rfl⟩
     refine aL (dK [true] (Kept.cons (ag Z) Kept.nil) ?_)
     refine dR 5 Z Z (ah Z Z Z hE (ix hquiet HQ) (by first | exact Ent.refl _ | exact ic) ?_)
     rintro v m ⟨rfl, rfl⟩
     refine bF (dK [false] Kept.nil (dP 6 Z Z (ae Z) (dP 7 Z Z (bc Z Z) (dP 8 Z Z (bc Z Z) (dP 9 Z Z (bc Z Z) ?_)))))
     refine dR 11 Z Z (aK Z (m := 4) (vs := bh 0 0 0 0) Z Z Z Z (by simp [Value.oneCell']) (by show 0 + 4 ≤ 4; omega) ?_)
     exact aD b9 (bh 0 0 0 0).toArray Z (dK [] Kept.nil (dP 12 Z Z (ax Z) (dP 13 Z Z (ax Z) (dE (bb b9 trivial ⟨rfl, rfl, rfl, rfl, rfl, trivial⟩ al)))))
   rintro b9 -
   refine At.seq (At.seq (At.region (L.mv Z Z (L.pure Z (bX (r := false) Z Z Z) (L.nil (At.then (aj Z (At.skip (At.then (At.seq (At.seq (At.region (L.mv Z Z (L.pure Z (cg Z Z) (L.nil (At.then (aQ Z (At.seq (At.region ?_)))))))))))))))))))
   refine L.as Z Z (L.nil (At.then (At.ret (aG (aB (aG ?_))))))
   refine aA (fO h f e j d p S l ++ [bW w h dl (.slice A ns.length c) (.slice Aq ts.length cq) gr rds cr gy R cy gi ci gj cj, q6 Aq cq ts, cL (sX gr rds.length cr) (rds), q5 gy R cy (·.CE), q5 gi R ci (·.state), q5 gj R cj (·.CE), nodesOwn (.slice A ns.length c) ns]) Z Z ⟨rfl, f, e, j, p, _, R, _, _, _, _, _, hH.next, (FK.Wt.refl R), rfl⟩ ?_
   show Ent _ (aW h d f :: cD f e j :: ap e p S :: au j d FK.J0 :: ak d (FK.cw l 1) :: bW w h dl (.slice A ns.length c) (.slice Aq ts.length cq) gr rds cr gy R cy gi ci gj cj :: q6 Aq cq ts :: row 51 1 (sX gr rds.length cr) (rds).length (cP (rds)) :: q4 gy R cy (·.CE) :: q4 gi R ci (·.state) :: q4 gj R cj (·.CE) :: nodesOwn (.slice A ns.length c) ns :: fr)
   try unfold q4
   rw [htrl, hstl]
   exact al
  ·
   obtain ⟨hd, q, hq⟩ : ∃ hd q, S.CH = hd :: q := by
    cases hVq : S.CH with
    | nil => exact absurd hVq HQ
    | cons a b => exact ⟨a, b, rfl⟩
   obtain ⟨kk, s, n, rfl, hs, h2, hnF, hlow, hnR⟩ := hL.head hq
   obtain ⟨hH2, hW2, hrdy, hfresh⟩ := hH.poll (by omega) hq hs h2 hnR
   have hlt : kk < R.CF.length := (List.getElem?_eq_some_iff.1 hs).1
   have hlr : kk < rds.length := by omega
   obtain ⟨rk, hrk⟩ : ∃ rk, rds[kk]? = some rk := ⟨rds[kk], List.getElem?_eq_getElem hlr⟩
   have hrkn : rk ≤ S.now := by rw [List.getD_eq_getElem?_getD, hrk] at hrdy; exact hrdy
   obtain ⟨_, hn9, hsp⟩ := hL.ok.node hL.get hs
   have htr0 := hsp.tr0
   have htrb := hsp.trb
   have hbud := ((hro.fl).CG kk _ (FK.bU hn9) hn9).1.2.1
   refine At.region (L.pure Z (aH (r := true) Z Z (decide_eq_true HK)) (L.as Z Z (L.nil (At.then (aQ Z ?_)))))
   refine At.seq (At.cut (X := Nat) (fun x => [(11, .int .i64 0), (10, .bool true), (9, aO x), (5, aY S.now), (4, .bool false), (0, aO w)]) (fun x => aW h d f :: cD f e j :: ap e p (S.hand ⟨2, (kk : Int), 0⟩ q R s n) :: au j d FK.J0 :: ak d (FK.cw (l ++ [FK.aV 2 0]) 1) :: blk x 55 (bh 2 kk (s.CE + 1) (S.CC + 1)).toArray :: bW w h dl (.slice A ns.length c) (.slice Aq ts.length cq) gr rds cr gy R cy gi ci gj cj :: q6 Aq cq ts :: row 51 1 (sX gr rds.length cr) rds.length (cP rds) :: q3 gy R cy (·.CE) :: q3 gi R ci (·.state) :: q3 gj R cj (·.CE) :: nodesOwn (.slice A ns.length c) ns :: fr) (fun _ => True) ?_ ?_)
   ·
    refine Dr.start Z (dP 0 Z Z (ae Z) (dP 1 Z Z (am Z) (dP 2 Z Z (ab (off := 0) Z Z) (dL 3 Z Z (aa Z Z) (ag Z) ?_))))
    refine gJ 4 10 Z Z Z Z (by kernel_rfl) (ah Z Z Z hE cV (Ent.refl _) ?_) (aN (z := .agg #[.int .u64 0, .int .i64 0, .int .i64 0, .int .u64 0]) Z Z fun b9 => ?_)
    ·
     rintro v m ⟨rfl, rfl⟩
     refine aL (dK [true] (Kept.cons (ag Z) Kept.nil) ?_)
     refine gJ 5 10 Z Z Z Z (by kernel_rfl) (ah Z Z Z hE (fw (J := FK.J0) hL.ok (by decide) Z hroom hquiet hq hL.get hs hnR (by omega) (by omega)) (by first | exact Ent.refl _ | exact ic) ?_) (aN (z := .agg #[.int .u64 0, .int .i64 0, .int .i64 0, .int .u64 0]) Z Z fun b9 => ?_)
     ·
      rintro v m ⟨rfl, rfl⟩
      refine bF ?_
      rw [cW]
      refine dK [false] Kept.nil (dP 6 Z Z (ae Z) (dP 7 Z Z (bc Z Z) (dP 8 Z Z (bc Z Z) (dP 9 Z Z (bc Z Z) (dR 10 Z Z (aN (z := .agg #[.int .u64 0, .int .i64 0, .int .i64 0, .int .u64 0]) Z Z fun b9 => (dK [] Kept.nil ?_)))))))
      refine dR 11 Z Z (aK Z (m := 4) (vs := bh 2 kk (s.CE + 1) (S.CC + 1)) Z Z Z Z (by simp [Value.oneCell']) (by show 0 + 4 ≤ 4; omega) ?_)
      exact aD b9 (bh 2 kk (s.CE + 1) (S.CC + 1)).toArray Z (dK [] Kept.nil (dP 12 Z Z (ax Z) (dP 13 Z Z (ax Z) (dE (bb b9 trivial ⟨rfl, rfl, rfl, rfl, rfl, rfl, trivial⟩ al)))))
     ·
      refine dK [true] (Kept.cons (ag Z) Kept.nil) ?_
      refine dR 5 Z Z (ah Z Z Z hE (fw (J := FK.J0) hL.ok (by decide) Z hroom hquiet hq hL.get hs hnR (by omega) (by omega)) (by first | exact Ent.refl _ | exact ic) ?_)
      rintro v m ⟨rfl, rfl⟩
      refine bF ?_
      rw [cW]
      refine dK [false] Kept.nil (dP 6 Z Z (ae Z) (dP 7 Z Z (bc Z Z) (dP 8 Z Z (bc Z Z) (dP 9 Z Z (bc Z Z) ?_))))
      refine dR 11 Z Z (aK Z (m := 4) (vs := bh 2 kk (s.CE + 1) (S.CC + 1)) Z Z Z Z (by simp [Value.oneCell']) (by show 0 + 4 ≤ 4; omega) ?_)
      exact aD b9 (bh 2 kk (s.CE + 1) (S.CC + 1)).toArray Z (dK [] Kept.nil (dP 12 Z Z (ax Z) (dP 13 Z Z (ax Z) (dE (bb b9 trivial ⟨rfl, rfl, rfl, rfl, rfl, rfl, trivial⟩ al)))))
    ·
     refine dK [true] (Kept.cons (ag Z) Kept.nil) ?_
     refine dR 4 Z Z (ah Z Z Z hE cV (Ent.refl _) ?_)
     rintro v m ⟨rfl, rfl⟩
     refine aL (dK [true] (Kept.cons (ag Z) Kept.nil) ?_)
     refine dR 5 Z Z (ah Z Z Z hE (fw (J := FK.J0) hL.ok (by decide) Z hroom hquiet hq hL.get hs hnR (by omega) (by omega)) (by first | exact Ent.refl _ | exact ic) ?_)
     rintro v m ⟨rfl, rfl⟩
     refine bF ?_
     rw [cW]
     refine dK [false] Kept.nil (dP 6 Z Z (ae Z) (dP 7 Z Z (bc Z Z) (dP 8 Z Z (bc Z Z) (dP 9 Z Z (bc Z Z) ?_))))
     refine dR 11 Z Z (aK Z (m := 4) (vs := bh 2 kk (s.CE + 1) (S.CC + 1)) Z Z Z Z (by simp [Value.oneCell']) (by show 0 + 4 ≤ 4; omega) ?_)
     exact aD b9 (bh 2 kk (s.CE + 1) (S.CC + 1)).toArray Z (dK [] Kept.nil (dP 12 Z Z (ax Z) (dP 13 Z Z (ax Z) (dE (bb b9 trivial ⟨rfl, rfl, rfl, rfl, rfl, rfl, trivial⟩ al)))))
   rintro b9 -
   refine At.seq (At.seq (At.region (L.mv Z Z (L.pure Z (bX (r := false) Z Z Z) (L.nil (At.then (aj Z (At.skip (At.then (At.seq (At.seq (At.region (L.mv Z Z (L.pure Z (cg Z Z) (L.nil (At.then (aj Z (At.skip (At.then ?_)))))))))))))))))))
   refine At.seq (At.seq (Dr.start Z (dP 0 Z Z (ab (off := 0) Z Z) (dL 1 Z Z (aa Z Z) (ag Z) (dP 2 Z Z (ae Z) (dP 3 Z Z (am Z) (dP 4 Z Z (ab (off := 3) Z Z) (dL 5 Z Z (aa Z Z) (ag Z) (dP 6 Z Z (bX (r := false) Z Z (by simp)) (dP 7 Z Z (ae Z) (dG 8 Z Z Z Z (ab (off := 1) Z Z) (dH 9 Z Z Z Z (aa Z Z) (ag Z) (dG 10 Z Z Z Z (bl (r := false) Z Z (decide_eq_false (by omega))) (dP 11 Z Z (aq Z Z Z) (dP 12 Z Z (ae Z) (dG 13 Z Z Z Z (ab (off := 1) Z Z) (dH 14 Z Z Z Z (aa Z Z) (ag Z) (dG 15 Z Z Z Z (ae Z) (dG 16 Z Z Z Z (am Z) ?_)))))))))))))))))))
   refine dG 17 Z Z Z Z (ab (off := 1) Z Z) (dG 18 Z Z Z Z (ab (off := 1) Z Z) (dH 19 Z Z Z Z (aa Z Z) (ag Z) (dG 20 Z Z Z Z (aM Z Z) (dG 21 Z Z Z Z (lV (r := false) Z Z (decide_eq_false (by omega))) (dP 22 Z Z (aq Z Z Z) (dP 23 Z Z (ae Z) (dG 24 Z Z Z Z (ab (off := 2) Z Z) (dH 25 Z Z Z Z (aa Z Z) (ag Z) (dG 26 Z Z Z Z (ae Z) (dG 27 Z Z Z Z (am Z) (dG 28 Z Z Z Z (ab (off := 6) Z Z) (dH 29 Z Z Z Z (aa Z Z) (ag Z) (dG 30 Z Z Z Z (ab (off := 1) Z Z) (dH 31 Z Z Z Z (aa Z Z) (ag Z) (dG 32 Z Z Z Z (aT (z := 1) Z Z Z Z hlt) (dH 33 Z Z Z Z (aa (v := .int .i64 s.CE) Z Z) (bJ (.tail (.tail (.tail (.tail (.tail (.tail (.tail (.tail (.tail (.head)))))))))) (kG hs)) (dG 34 Z Z Z Z (aS (r := s.CE + 1) Z Z (dd (by omega))) (dG 35 Z Z Z Z (bX (r := false) Z Z (by simp)) (dP 36 Z Z (aq Z Z Z) ?_)))))))))))))))))))
   refine dP 37 Z Z (ae Z) (dG 38 Z Z Z Z (ae Z) (dG 39 Z Z Z Z (ae Z) (dG 40 Z Z Z Z (am Z) (dG 41 Z Z Z Z (ab (off := 5) Z Z) (dH 42 Z Z Z Z (aa Z Z) (ag Z) (dG 43 Z Z Z Z (ab (off := 1) Z Z) (dH 44 Z Z Z Z (aa Z Z) (ag Z) (dG 45 Z Z Z Z (aT (z := 1) Z Z Z Z hlr) (dH 46 Z Z Z Z (aa (v := aY rk) Z Z) (bJ (.tail (.tail (.tail (.tail (.tail (.tail (.tail (.tail (.head))))))))) (AR hrk)) (dG 47 Z Z Z Z (bl (r := false) Z Z (decide_eq_false (by omega))) (dP 48 Z Z (aq Z Z Z) (dP 49 Z Z (ae Z) (dG 50 Z Z Z Z (ae Z) (dG 51 Z Z Z Z (am Z) (dG 52 Z Z Z Z (ab (off := 7) Z Z) (dG 53 Z Z Z Z (ab (off := 2) Z Z) (dH 54 Z Z Z Z (aa Z Z) (ag Z) (dG 55 Z Z Z Z (ab (off := 1) Z Z) (dH 56 Z Z Z Z (aa Z Z) (ag Z) ?_)))))))))))))))))))
   refine dG 57 Z Z Z Z (aT (z := 1) Z Z Z Z hlt) (dH 58 Z Z Z Z (aa (v := .int .i64 s.state) Z Z) (bJ (.tail (.tail (.tail (.tail (.tail (.tail (.tail (.tail (.tail (.tail (.head))))))))))) (er hs)) (dG 59 Z Z Z Z (bX (r := false) Z Z (by rw [h2]; simp)) (dP 60 Z Z (aq Z Z Z) (dE (At.then (aj Z (At.skip (At.then (At.seq (At.seq (At.region (L.as Z Z (L.nil (At.then (At.block ?_)))))))))))))))
   refine bk (X := Nat) (fun x => [(12, .int .i64 x), (9, aO b9), (4, .bool false), (0, aO w)]) (fun x => aW h d f :: cD f e j :: ap e p (S.hand ⟨2, (kk : Int), 0⟩ q R s n) :: au j d FK.J0 :: ak d (FK.cw (l ++ [FK.aV 2 0]) 1) :: blk b9 55 (bh 2 kk (s.CE + 1) (S.CC + 1)).toArray :: bW w h dl (.slice A ns.length c) (.slice Aq ts.length cq) gr rds cr gy R cy gi ci gj cj :: q6 Aq cq ts :: row 51 1 (sX gr rds.length cr) rds.length (cP rds) :: q3 gy R cy (·.CE) :: q3 gi R ci (·.state) :: q3 gj R cj (·.CE) :: nodesOwn (.slice A ns.length c) ns :: fr) (fun x => x ≤ ts.length) (fun x => ts.length - x) 0 (Nat.zero_le _) ⟨rfl, rfl, rfl, rfl, trivial⟩ (Ent.refl _) ?_
   intro x hx
   refine At.seq (At.seq (At.region (L.mv Z Z (L.mv Z Z (aR Z Z (aI 4 Z Z Z (bd Z Z Z Z (L.pure Z (aM Z Z) (L.pure Z (bl Z Z Z) (L.nil (At.then ?_)))))))))))
   refine aE Z (fun c171 => ?_) (fun c171 => ?_)
   ·
    have hxl : x < ts.length := by have : (x : Int) < (ts.length : Int) := c171; omega
    obtain ⟨gt, rfl⟩ : ∃ g, Aq = some ⟨g, 0, none⟩ := by
     cases Aq with
     | none => have := (hnt rfl).1; omega
     | some ad => obtain ⟨g, rfl⟩ := hft ad rfl; exact ⟨g, rfl⟩
    obtain ⟨a2, hta2⟩ : ∃ a, ts[x]? = some a := ⟨ts[x], List.getElem?_eq_getElem hxl⟩
    have hne2 := hfresh a2 (List.mem_of_getElem? hta2)
    refine At.skip (At.then (At.seq (At.block (At.seq (Dr.start Z (dP 0 Z Z (ae Z) (dP 1 Z Z (am Z) (dP 2 Z Z (ab (off := 4) Z Z) (dL 3 Z Z (aa Z Z) (ag Z) (dP 4 Z Z (ae Z) (dP 5 Z Z (aT (z := 4) Z Z Z Z hxl) (dP 6 Z Z (ab (off := 3) Z Z) ?_))))))))))))
    refine dL 7 Z Z (aa (v := aY a2.tok) Z Z) (bJ (.tail (.tail (.tail (.tail (.tail (.tail (.tail (.head)))))))) (by rw [Nat.zero_add]; exact nG hta2 3 _ Z)) ?_
    refine dP 8 Z Z (ab (off := 3) Z Z) (dL 9 Z Z (aa Z Z) (ag Z) (dP 10 Z Z (aH (r := false) Z Z (decide_eq_false (by omega))) (dE (At.then (aj Z (At.skip (an (At.then (At.region (L.mv Z Z (L.pure Z (aS (r := ((x + 1 : Nat) : Int)) Z Z (by rw [dd (by omega)]; omega)) (L.as Z Z (L.nil ?_)))))))))))))
    exact At.round (x + 1) hxl (by show ts.length - (x + 1) < ts.length - x; omega) ⟨rfl, rfl, rfl, rfl, trivial⟩ (Ent.refl _)
   ·
    refine At.exit (az (ay (ar (At.then (Dr.start Z (dP 0 Z Z (ae Z) (dP 1 Z Z (ae Z) (dP 2 Z Z (am Z) (dP 3 Z Z (ab (off := 4) Z Z) (dL 4 Z Z (aa Z Z) (ag Z) (dL 5 Z Z (ao (vs := bh 2 kk (s.CE + 1) (S.CC + 1)) Z Z Z Z) (aw Z) ?_)))))))))))
    refine dR 6 Z Z (dF (m := 1) (z := gc 0 0 0 0) (size := 4) (ps := [(0, .tmp 190)]) (vs := [gc 2 kk (s.CE + 1) (S.CC + 1)]) (cs := (bh 2 kk (s.CE + 1) (S.CC + 1)).toArray) Z Z Z Z (by omega) (by omega) Z (uO _ _ _ _ 190) fun b191 => ?_)
    refine dK [false, true] (Kept.cons (ag Z) Kept.nil) ?_
    refine dR 7 rfl rfl (cm rfl rfl zB rfl (by omega) rfl rfl (.tail (.tail (.tail (.tail (.tail (.tail (.tail (.tail (.head))))))))) (news := bh 2 kk (s.CE + 1) (S.CC + 1)) rfl (fun h => by cases h) (fN (fun j u h => by simpa using h)) (by simp [Value.oneCell']) (by unfold maxLen; omega) (by omega) fun v192 hv192 => ?_)
    refine aC .head ?_
    rintro A9 c9 rfl - - - - -
    refine dK [false] Kept.nil (dP 8 Z Z (am Z) (dP 9 Z Z (ab (off := 4) Z Z) ?_))
    refine dR 10 Z Z (bB Z Z Z Z Z (by show 4 < 11; decide) ?_)
    refine aD w (tF h dl (.slice A ns.length c) 2 (.slice A9 (ts.length + 1) c9) (sX gr rds.length cr) (sX gy R.CF.length cy) 2 R.state (sX gi R.CF.length ci) (sX gj R.CF.length cj)).toArray Z (dK [] Kept.nil (dE (an (At.then (At.seq (At.region (L.as Z Z (L.nil (At.then (At.ret ?_))))))))))
    refine aA (fO h f e j d p (S.hand ⟨2, (kk : Int), 0⟩ q R s n) (l ++ [FK.aV 2 0]) ++ [bW w h dl (.slice A ns.length c) (.slice A9 (ts.length + 1) c9) gr rds cr gy R cy gi ci gj cj, row 55 4 (.slice A9 (ts.length + 1) c9) (ts ++ [(⟨kk, s.CE + 1, S.CC + 1⟩ : FK.Hd)]).length (dD (ts ++ [(⟨kk, s.CE + 1, S.CC + 1⟩ : FK.Hd)])), cL (sX gr rds.length cr) (rds), q5 gy R cy (·.CE), q5 gi R ci (·.state), q5 gj R cj (·.CE), nodesOwn (.slice A ns.length c) ns]) Z Z ⟨rfl, f, e, j, p, _, (R.setS kk ⟨3, s.CE + 1, S.CC + 1⟩), _, _, _, _, _, hH2, hW2, rfl⟩ ?_
    show Ent _ (aW h d f :: cD f e j :: ap e p (S.hand ⟨2, (kk : Int), 0⟩ q R s n) :: au j d FK.J0 :: ak d (FK.cw (l ++ [FK.aV 2 0]) 1) :: bW w h dl (.slice A ns.length c) (.slice A9 (ts.length + 1) c9) gr rds cr gy R cy gi ci gj cj :: row 55 4 (.slice A9 (ts.length + 1) c9) (ts ++ [(⟨kk, s.CE + 1, S.CC + 1⟩ : FK.Hd)]).length (dD (ts ++ [(⟨kk, s.CE + 1, S.CC + 1⟩ : FK.Hd)])) :: row 51 1 (sX gr rds.length cr) (rds).length (cP (rds)) :: q4 gy R cy (·.CE) :: q4 gi R ci (·.state) :: q4 gj R cj (·.CE) :: nodesOwn (.slice A ns.length c) ns :: fr)
    try unfold q4
    rw [htrl, hstl, mw, show (ts ++ [(⟨kk, s.CE + 1, S.CC + 1⟩ : FK.Hd)]).length = ts.length + 1 by simp]
    exact al
 ·
  refine At.region (L.pure Z (aH (r := false) Z Z (decide_eq_false HK)) (L.as Z Z (L.nil (At.then (aj Z (At.seq (At.region (L.pure Z (aH Z Z Z) (L.as Z Z (L.nil (At.then ?_)))))))))))
  refine aE Z (fun c195 => ?_) (fun c195 => ?_)
  ·
   refine At.seq ?_
   by_cases HW : wk = true
   ·
    subst HW
    obtain ⟨ham, s, hs, h3, htry⟩ := hwk.1 rfl
    have hfind := hH.seen.tsk.find hL ham hs h3 htry
    have hlt : a.node < R.CF.length := (List.getElem?_eq_some_iff.1 hs).1
    obtain ⟨nd, cN, hsp⟩ := hL.ok.node hL.get hs
    have hndF : ns[a.node]? = some nd := by have := cN; rwa [hL.fl] at this
    obtain ⟨R2, hH2, hW2⟩ := hH.complete (by omega) htok hfind hs h3
    refine Dr.start Z (dP 0 Z Z (ae Z) (dP 1 Z Z (am Z) (dP 2 Z Z (ab (off := 0) Z Z) (dL 3 Z Z (aa Z Z) (ag Z) (dP 4 Z Z (ab (off := 3) Z Z) (dL 5 Z Z (aa Z Z) (ag Z) ?_))))))
    refine dR 6 Z Z (ah Z Z Z hE cV (Ent.refl _) ?_)
    rintro v m ⟨rfl, rfl⟩
    refine aL (dK [true, true] (Kept.cons (ag Z) (Kept.cons (ag Z) Kept.nil)) ?_)
    refine dR 7 Z Z (ah Z Z Z hE (io (J := FK.J0) hL.ok htok (by decide) Z hroom hquiet hfind (by omega)) (Ent.refl _) ?_)
    rintro v m ⟨rfl, rfl⟩
    refine bF ?_
    rw [cW]
    refine dK [false, false] Kept.nil (dP 8 Z Z (ax Z) (dE (At.then (At.seq (At.region (L.mv Z Z (L.mv Z Z (L.pure Z (aH (r := true) Z Z Z) (L.pure Z (jf (r := true) Z Z Z Z) (L.mv Z Z (lT Z Z Z (ae Z) (lT Z Z Z (ae Z) (L.off Z Z Z Z Z Z (L.off Z Z Z Z Z Z (lT Z Z Z (aq Z Z Z) (L.pure Z (aq Z Z Z) (L.as Z Z (L.nil (At.then ?_)))))))))))))))))))
    refine At.ret (aB (aG ?_))
    refine aA (fO h f e j d p (S.complete a.tok) (l ++ [FK.aV 4 a.tok]) ++ [bW w h dl (.slice A ns.length c) (.slice Aq ts.length cq) gr rds cr gy R cy gi ci gj cj, q6 Aq cq ts, cL (sX gr rds.length cr) (rds), q5 gy R cy (·.CE), q5 gi R ci (·.state), q5 gj R cj (·.CE), nodesOwn (.slice A ns.length c) ns]) Z Z ⟨rfl, f, e, j, p, _, R2, _, _, _, _, _, hH2, hW2, rfl⟩ ?_
    show Ent _ (aW h d f :: cD f e j :: ap e p (S.complete a.tok) :: au j d FK.J0 :: ak d (FK.cw (l ++ [FK.aV 4 a.tok]) 1) :: bW w h dl (.slice A ns.length c) (.slice Aq ts.length cq) gr rds cr gy R cy gi ci gj cj :: q6 Aq cq ts :: row 51 1 (sX gr rds.length cr) (rds).length (cP (rds)) :: q4 gy R cy (·.CE) :: q4 gi R ci (·.state) :: q4 gj R cj (·.CE) :: nodesOwn (.slice A ns.length c) ns :: fr)
    try unfold q4
    rw [htrl, hstl]
    exact al
   ·
    obtain rfl : wk = false := by cases wk with
     | true => exact absurd rfl HW
     | false => rfl
    refine Dr.start Z (dP 0 Z Z (ae Z) (dP 1 Z Z (am Z) (dP 2 Z Z (ab (off := 0) Z Z) (dL 3 Z Z (aa Z Z) (ag Z) (dP 4 Z Z (ab (off := 3) Z Z) (dL 5 Z Z (aa Z Z) (ag Z) ?_))))))
    refine dR 6 Z Z (ah Z Z Z hE cV (Ent.refl _) ?_)
    rintro v m ⟨rfl, rfl⟩
    refine aL (dK [true, true] (Kept.cons (ag Z) (Kept.cons (ag Z) Kept.nil)) ?_)
    refine dR 7 Z Z (ah Z Z Z hE (mX hquiet (hno Z)) (Ent.refl _) ?_)
    rintro v m ⟨rfl, rfl⟩
    refine bF (dK [false, false] Kept.nil (dP 8 Z Z (ax Z) (dE (At.then (At.seq (At.region (L.mv Z Z (L.mv Z Z (L.pure Z (aH (r := false) Z Z Z) (L.pure Z (jf (r := true) Z Z Z Z) (L.mv Z Z (lT Z Z Z (ae Z) (lT Z Z Z (ae Z) (lT Z Z Z (ae Z) (lT Z Z Z (aH (r := true) Z Z Z) (lT Z Z Z (aq Z Z Z) (L.pure Z (aq Z Z Z) (L.as Z Z (L.nil ?_)))))))))))))))))))
    refine At.then (At.ret (aB (aG ?_)))
    refine aA (fO h f e j d p S l ++ [bW w h dl (.slice A ns.length c) (.slice Aq ts.length cq) gr rds cr gy R cy gi ci gj cj, q6 Aq cq ts, cL (sX gr rds.length cr) (rds), q5 gy R cy (·.CE), q5 gi R ci (·.state), q5 gj R cj (·.CE), nodesOwn (.slice A ns.length c) ns]) Z Z ⟨rfl, f, e, j, p, _, R, _, _, _, _, _, hH.next, (FK.Wt.refl R), rfl⟩ ?_
    show Ent _ (aW h d f :: cD f e j :: ap e p S :: au j d FK.J0 :: ak d (FK.cw l 1) :: bW w h dl (.slice A ns.length c) (.slice Aq ts.length cq) gr rds cr gy R cy gi ci gj cj :: q6 Aq cq ts :: row 51 1 (sX gr rds.length cr) (rds).length (cP (rds)) :: q4 gy R cy (·.CE) :: q4 gi R ci (·.state) :: q4 gj R cj (·.CE) :: nodesOwn (.slice A ns.length c) ns :: fr)
    try unfold q4
    rw [htrl, hstl]
    exact al
  ·
   refine At.seq (At.region (L.pure Z (aH Z Z Z) (L.as Z Z (L.nil (At.then ?_)))))
   refine aE Z (fun c216 => ?_) (fun c216 => ?_)
   ·
    refine At.seq ?_
    by_cases HW : wk = true
    ·
     subst HW
     obtain ⟨ham, s, hs, h3, htry⟩ := hwk.1 rfl
     have hfind := hH.seen.tsk.find hL ham hs h3 htry
     have hlt : a.node < R.CF.length := (List.getElem?_eq_some_iff.1 hs).1
     obtain ⟨nd, cN, hsp⟩ := hL.ok.node hL.get hs
     have hndF : ns[a.node]? = some nd := by have := cN; rwa [hL.fl] at this
     obtain ⟨R2, hH2, hW2⟩ := hH.fail (by omega) htok hfind hs h3 hndF
     refine Dr.start Z (dP 0 Z Z (ae Z) (dP 1 Z Z (am Z) (dP 2 Z Z (ab (off := 0) Z Z) (dL 3 Z Z (aa Z Z) (ag Z) (dP 4 Z Z (ab (off := 3) Z Z) (dL 5 Z Z (aa Z Z) (ag Z) ?_))))))
     refine dR 6 Z Z (ah Z Z Z hE cV (Ent.refl _) ?_)
     rintro v m ⟨rfl, rfl⟩
     refine aL (dK [true, true] (Kept.cons (ag Z) (Kept.cons (ag Z) Kept.nil)) ?_)
     refine dR 7 Z Z (ah Z Z Z hE (oB (J := FK.J0) hL.ok htok (by decide) Z hroom hquiet hfind (by omega) (by omega)) (Ent.refl _) ?_)
     rintro v m ⟨rfl, rfl⟩
     refine bF ?_
     rw [cW]
     refine dK [false, false] Kept.nil (dP 8 Z Z (ax Z) (dE (At.then (At.seq (At.seq (At.region (L.mv Z Z (L.nil (At.then (aQ Z (At.seq (gL (.tail (.tail (.tail (.tail (.tail (.tail (.tail (.tail (.tail (.tail (.tail (.tail (.tail (.head)))))))))))))) ?_))))))))))))
     intro vs hvs
     refine aC .head ?_
     intro A7 c7 hA7 hn7 hf7 hc71 hc72 hlen7
     injection hA7 with hA7 _ hc7
     subst hA7; subst hc7
     obtain ⟨gf, rfl⟩ : ∃ g, A = some ⟨g, 0, none⟩ := by
      cases A with
      | none => have := (hn7 rfl).1; omega
      | some ad => obtain ⟨g, rfl⟩ := hf7 ad rfl; exact ⟨g, rfl⟩
     have hln : a.node < ns.length := by omega
     obtain ⟨u, hu⟩ : ∃ u, vs[a.node]? = some u := ⟨vs[a.node]'(by omega), by simp⟩
     obtain ⟨r6, hs6⟩ := kU (sc hu hndF)
     refine aC (.tail (hs6.left _)) ?_
     rintro A6 c6 rfl - - - - -
     refine At.ent (l' := row 46 7 (sX gf ns.length c) ns.length (aZ ns vs) :: (bf vs ns ++ (aW h d f :: cD f e j :: ap e p (S.fail a.tok) :: au j d FK.J0 :: ak d (FK.cw (l ++ [FK.aV 5 a.tok]) 1) :: blk b7 55 (bh rn a.node a.tri a.tok).toArray :: blk b3 36 #[.int .i64 kind, .int .i64 N, .int .i64 kept] :: bW w h dl (sX gf ns.length c) (.slice Aq ts.length cq) gr rds cr gy R cy gi ci gj cj :: q6 Aq cq ts :: row 51 1 (sX gr rds.length cr) rds.length (cP rds) :: q3 gy R cy (·.CE) :: q3 gi R ci (·.state) :: q3 gj R cj (·.CE) :: fr))) (Ent.refl _) ?_
     refine At.ent (l' := row 46 7 (sX gf ns.length c) ns.length (aZ ns vs) :: aW h d f :: cD f e j :: ap e p (S.fail a.tok) :: au j d FK.J0 :: ak d (FK.cw (l ++ [FK.aV 5 a.tok]) 1) :: blk b7 55 (bh rn a.node a.tri a.tok).toArray :: blk b3 36 #[.int .i64 kind, .int .i64 N, .int .i64 kept] :: bW w h dl (sX gf ns.length c) (.slice Aq ts.length cq) gr rds cr gy R cy gi ci gj cj :: q6 Aq cq ts :: row 51 1 (sX gr rds.length cr) rds.length (cP rds) :: q3 gy R cy (·.CE) :: q3 gi R ci (·.state) :: q3 gj R cj (·.CE) :: (bf vs ns ++ fr)) ?_ ?_
     · have hmid := qG (a := bf vs ns) (b := [aW h d f, cD f e j, ap e p (S.fail a.tok), au j d FK.J0, ak d (FK.cw (l ++ [FK.aV 5 a.tok]) 1), blk b7 55 (bh rn a.node a.tri a.tok).toArray, blk b3 36 #[.int .i64 kind, .int .i64 N, .int .i64 kept], bW w h dl (sX gf ns.length c) (.slice Aq ts.length cq) gr rds cr gy R cy gi ci gj cj, q6 Aq cq ts, row 51 1 (sX gr rds.length cr) rds.length (cP rds), q3 gy R cy (·.CE), q3 gi R ci (·.state), q3 gj R cj (·.CE)]) (c := fr)
       exact Ent.trans (Ent.cons hmid) (Ent.refl _)
     refine Dr.start Z (dP 0 Z Z (ae Z) (dP 1 Z Z (am Z) (dP 2 Z Z (ab (off := 1) Z Z) (dP 3 Z Z (ab (off := 1) Z Z) (dL 4 Z Z (aa Z Z) (ag Z) (dP 5 Z Z (ab (off := 1) Z Z) (dL 6 Z Z (aa Z Z) (ag Z) (dP 7 Z Z (aT (z := 7) Z Z Z Z hln) ?_))))))))
     refine dL 8 Z Z (ao (vs := av nd (.slice A6 nd.after.length c6)) Z Z Z Z) (nq .head fun j x hj => by rw [Nat.zero_add, fo ns vs a.node j nd _ hvs hndF hu (by have := (List.getElem?_eq_some_iff.1 hj).1; simpa [av] using this)]; exact hj) ?_
     refine dR 9 Z Z (aN (z := .agg #[.int .i64 0, .int .i64 0, .int .i64 0, .int .i64 0, .int .i64 0, .int .i64 0, .slice none 0 0]) Z Z fun b15 => ?_)
     refine dK [true, true, true] (Kept.cons (nq (.tail .head) fun j x hj => by rw [Nat.zero_add, fo ns vs a.node j nd _ hvs hndF hu (by have := (List.getElem?_eq_some_iff.1 hj).1; simpa [av] using this)]; exact hj) (Kept.cons (ag Z) (Kept.cons (ag Z) Kept.nil))) ?_
     refine dR 10 Z Z (aK Z (m := 7) (vs := av nd (.slice A6 nd.after.length c6)) Z Z Z Z (by simp [av, Value.oneCell']) (by show 0 + 7 ≤ 7; omega) ?_)
     refine aD b15 (av nd (.slice A6 nd.after.length c6)).toArray Z (dK [false, false, false] Kept.nil (dE (At.then (At.seq ?_))))
     have hno' := ((hro.fl).CG a.node nd (FK.bU cN) cN).1
     obtain ⟨hw1, hw2⟩ := FK.od nd hno' s.CE
     have hw3 := FK.sh nd hno' s.CE
     have hj0 := hno'.2.2.2.2.2.2
     have hcap := hno'.2.2.2.2.2.1
     have hbase := hno'.2.2.2.2.1
     obtain ⟨hcap1, hcap2⟩ := hcap
     obtain ⟨hjt1, hjt2⟩ := hj0
     obtain ⟨hbs1, hbs2⟩ := hbase
     obtain ⟨wt, hwt⟩ : ∃ wt : Nat, FK.dk nd.base nd.cap nd.CK s.CE 0 = wt := ⟨(FK.dk nd.base nd.cap nd.CK s.CE 0).toNat, by omega⟩
     refine At.region (L.val Z (ao (vs := av nd (.slice A6 nd.after.length c6)) Z Z Z Z) (aw Z) (aI 2 Z Z Z (bd Z Z Z Z ?_)))
     refine L.op Z (ah Z Z Z hE (sF nd A6 nd.after.length c6 a.tri 0 hbs1 hcap1 hcap2 hjt1 hjt2 (by omega)) (Ent.refl _) ?_)
     rintro v m ⟨rfl, rfl⟩
     refine aL ?_
     rw [← htry, show ((0 : Nat) : Int) = 0 from rfl, hwt]
     refine L.as Z Z (L.nil (At.then (At.seq (At.seq (At.region (L.mv Z Z (aI 3 Z Z Z (bd Z Z Z Z (L.pure Z (bl (r := false) Z Z (decide_eq_false (by omega))) (L.mv Z Z (lT Z Z Z (ae Z) (lT Z Z Z (ab (off := 4) Z Z) (lA Z Z Z (aa Z Z) (ag Z) (lT Z Z Z (ab (off := 5) Z Z) (lA Z Z Z (aa Z Z) (ag Z) (lT Z Z Z (aS (r := nd.cap + nd.CK) Z Z (dd (by omega))) (lT Z Z Z (cG (r := false) Z Z (decide_eq_false (by omega))) (L.pure Z (aq Z Z Z) (L.nil ?_)))))))))))))))))))
     refine At.then (aj Z (At.skip (At.then (Dr.start Z (dP 0 Z Z (ae Z) (dP 1 Z Z (am Z) (dP 2 Z Z (ab (off := 5) Z Z) (dL 3 Z Z (aa Z Z) (ag Z) (dP 4 Z Z (ab (off := 1) Z Z) (dL 5 Z Z (aa Z Z) (ag Z) (dP 6 Z Z (ae Z) (dP 7 Z Z (ae Z) (dP 8 Z Z (bz (r := (wt : Int)) Z Z Z (by rw [kE]; omega)) (dP 9 Z Z (aS (r := ((S.now + wt : Nat) : Int)) Z Z (by rw [kE]; omega)) (dP 10 Z Z (aT (z := 1) Z Z Z Z (by omega : a.node < rds.length)) ?_)))))))))))))))
     refine dR 11 Z Z (dZ (.tail (.tail (.tail (.tail (.tail (.tail (.tail (.tail (.tail (.tail (.tail (.head)))))))))))) Z Z Z Z (by omega) ?_)
     rw [zg]
     refine At.ent (l' := nodesOwn (sX gf ns.length c) ns :: aW h d f :: cD f e j :: ap e p (S.fail a.tok) :: au j d FK.J0 :: ak d (FK.cw (l ++ [FK.aV 5 a.tok]) 1) :: bW w h dl (sX gf ns.length c) (.slice Aq ts.length cq) gr rds cr gy R cy gi ci gj cj :: q6 Aq cq ts :: row 51 1 (sX gr rds.length cr) rds.length (cP (rds.set a.node (S.now + wt))) :: q3 gy R cy (·.CE) :: q3 gi R ci (·.state) :: q3 gj R cj (·.CE) :: fr) ?_ ?_
     · refine Ent.trans (b := row 46 7 (sX gf ns.length c) ns.length (aZ ns vs) :: (bf vs ns ++ (aW h d f :: cD f e j :: ap e p (S.fail a.tok) :: au j d FK.J0 :: ak d (FK.cw (l ++ [FK.aV 5 a.tok]) 1) :: bW w h dl (sX gf ns.length c) (.slice Aq ts.length cq) gr rds cr gy R cy gi ci gj cj :: q6 Aq cq ts :: row 51 1 (sX gr rds.length cr) rds.length (cP (rds.set a.node (S.now + wt))) :: q3 gy R cy (·.CE) :: q3 gi R ci (·.state) :: q3 gj R cj (·.CE) :: fr))) ?_ (nodesOwn.ent hvs)
       have hmid := qG (a := [aW h d f, cD f e j, ap e p (S.fail a.tok), au j d FK.J0, ak d (FK.cw (l ++ [FK.aV 5 a.tok]) 1), bW w h dl (sX gf ns.length c) (.slice Aq ts.length cq) gr rds cr gy R cy gi ci gj cj, q6 Aq cq ts, row 51 1 (sX gr rds.length cr) rds.length (cP (rds.set a.node (S.now + wt))), q3 gy R cy (·.CE), q3 gi R ci (·.state), q3 gj R cj (·.CE)]) (b := bf vs ns) (c := fr)
       refine Ent.trans ?_ (Ent.cons hmid)
       show Ent _ (row 46 7 (sX gf ns.length c) ns.length (aZ ns vs) :: aW h d f :: cD f e j :: ap e p (S.fail a.tok) :: au j d FK.J0 :: ak d (FK.cw (l ++ [FK.aV 5 a.tok]) 1) :: bW w h dl (sX gf ns.length c) (.slice Aq ts.length cq) gr rds cr gy R cy gi ci gj cj :: q6 Aq cq ts :: row 51 1 (sX gr rds.length cr) rds.length (cP (rds.set a.node (S.now + wt))) :: q3 gy R cy (·.CE) :: q3 gi R ci (·.state) :: q3 gj R cj (·.CE) :: (bf vs ns ++ fr))
       exact al
     refine dK [false, false] Kept.nil (dE (At.then (At.seq (At.region (L.mv Z Z (L.mv Z Z (L.pure Z (aH (r := true) Z Z Z) (L.pure Z (jf (r := true) Z Z Z Z) (L.mv Z Z (lT Z Z Z (ae Z) (lT Z Z Z (ae Z) (L.off Z Z Z Z Z Z (L.off Z Z Z Z Z Z (lT Z Z Z (aq Z Z Z) (L.pure Z (aq Z Z Z) (L.as Z Z (L.nil (At.then (At.ret ?_)))))))))))))))))))
     refine aB (aG ?_)
     refine aA (fO h f e j d p (S.fail a.tok) (l ++ [FK.aV 5 a.tok]) ++ [bW w h dl (sX gf ns.length c) (.slice Aq ts.length cq) gr rds cr gy R cy gi ci gj cj, q6 Aq cq ts, cL (sX gr rds.length cr) (rds.set a.node (S.now + wt)), q5 gy R cy (·.CE), q5 gi R ci (·.state), q5 gj R cj (·.CE), nodesOwn (sX gf ns.length c) ns]) Z Z ⟨rfl, f, e, j, p, _, R2, _, _, _, _, _, (by rw [hwt] at hH2; exact hH2), hW2, rfl⟩ ?_
     show Ent _ (aW h d f :: cD f e j :: ap e p (S.fail a.tok) :: au j d FK.J0 :: ak d (FK.cw (l ++ [FK.aV 5 a.tok]) 1) :: bW w h dl (sX gf ns.length c) (.slice Aq ts.length cq) gr rds cr gy R cy gi ci gj cj :: q6 Aq cq ts :: row 51 1 (sX gr rds.length cr) (rds.set a.node (S.now + wt)).length (cP (rds.set a.node (S.now + wt))) :: q4 gy R cy (·.CE) :: q4 gi R ci (·.state) :: q4 gj R cj (·.CE) :: nodesOwn (sX gf ns.length c) ns :: fr)
     try unfold q4
     rw [htrl, hstl, List.length_set]
     exact al
    ·
     obtain rfl : wk = false := by cases wk with
      | true => exact absurd rfl HW
      | false => rfl
     refine Dr.start Z (dP 0 Z Z (ae Z) (dP 1 Z Z (am Z) (dP 2 Z Z (ab (off := 0) Z Z) (dL 3 Z Z (aa Z Z) (ag Z) (dP 4 Z Z (ab (off := 3) Z Z) (dL 5 Z Z (aa Z Z) (ag Z) ?_))))))
     refine dR 6 Z Z (ah Z Z Z hE cV (Ent.refl _) ?_)
     rintro v m ⟨rfl, rfl⟩
     refine aL (dK [true, true] (Kept.cons (ag Z) (Kept.cons (ag Z) Kept.nil)) ?_)
     refine dR 7 Z Z (ah Z Z Z hE (sT hquiet (hno Z)) (Ent.refl _) ?_)
     rintro v m ⟨rfl, rfl⟩
     refine bF (dK [false, false] Kept.nil (dP 8 Z Z (ax Z) (dE (At.then (At.seq (At.seq (At.region (L.mv Z Z (L.nil (At.then (aj Z (At.skip (At.then (At.seq (At.region (L.mv Z Z (L.mv Z Z (L.pure Z (aH (r := false) Z Z Z) (L.pure Z (jf (r := true) Z Z Z Z) ?_)))))))))))))))))))
     refine L.mv Z Z (lT Z Z Z (ae Z) (lT Z Z Z (ae Z) (lT Z Z Z (ae Z) (lT Z Z Z (aH (r := true) Z Z Z) (lT Z Z Z (aq Z Z Z) (L.pure Z (aq Z Z Z) (L.as Z Z (L.nil (At.then (At.ret (aB (aG ?_))))))))))))
     refine aA (fO h f e j d p S l ++ [bW w h dl (.slice A ns.length c) (.slice Aq ts.length cq) gr rds cr gy R cy gi ci gj cj, q6 Aq cq ts, cL (sX gr rds.length cr) (rds), q5 gy R cy (·.CE), q5 gi R ci (·.state), q5 gj R cj (·.CE), nodesOwn (.slice A ns.length c) ns]) Z Z ⟨rfl, f, e, j, p, _, R, _, _, _, _, _, hH.next, (FK.Wt.refl R), rfl⟩ ?_
     show Ent _ (aW h d f :: cD f e j :: ap e p S :: au j d FK.J0 :: ak d (FK.cw l 1) :: bW w h dl (.slice A ns.length c) (.slice Aq ts.length cq) gr rds cr gy R cy gi ci gj cj :: q6 Aq cq ts :: row 51 1 (sX gr rds.length cr) (rds).length (cP (rds)) :: q4 gy R cy (·.CE) :: q4 gi R ci (·.state) :: q4 gj R cj (·.CE) :: nodesOwn (.slice A ns.length c) ns :: fr)
     try unfold q4
     rw [htrl, hstl]
     exact al
   ·
    refine At.seq (At.region (L.pure Z (aH Z Z Z) (L.as Z Z (L.nil (At.then ?_)))))
    refine aE Z (fun c275 => ?_) (fun c275 => ?_)
    ·
     refine At.seq ?_
     by_cases HW : wk = true
     ·
      subst HW
      obtain ⟨ham, s, hs, h3, htry⟩ := hwk.1 rfl
      have hfind := hH.seen.tsk.find hL ham hs h3 htry
      have hlt : a.node < R.CF.length := (List.getElem?_eq_some_iff.1 hs).1
      obtain ⟨nd, cN, hsp⟩ := hL.ok.node hL.get hs
      have hndF : ns[a.node]? = some nd := by have := cN; rwa [hL.fl] at this
      have hH2 := hH.beat (by omega) htok hfind hs h3 cN
      refine Dr.start Z (dP 0 Z Z (ae Z) (dP 1 Z Z (am Z) (dP 2 Z Z (ab (off := 0) Z Z) (dL 3 Z Z (aa Z Z) (ag Z) (dP 4 Z Z (ab (off := 3) Z Z) (dL 5 Z Z (aa Z Z) (ag Z) ?_))))))
      refine dR 6 Z Z (ah Z Z Z hE cV (Ent.refl _) ?_)
      rintro v m ⟨rfl, rfl⟩
      refine aL (dK [true, true] (Kept.cons (ag Z) (Kept.cons (ag Z) Kept.nil)) ?_)
      refine dR 7 Z Z (ah Z Z Z hE (uJ (J := FK.J0) hL.ok htok (by decide) Z hroom hquiet hfind hL.get cN (by omega)) (Ent.refl _) ?_)
      rintro v m ⟨rfl, rfl⟩
      refine bF ?_
      rw [cW]
      refine dK [false, false] Kept.nil (dP 8 Z Z (ax Z) (dE (At.then (At.seq (At.region (L.mv Z Z (L.mv Z Z (L.pure Z (aH (r := true) Z Z Z) (L.pure Z (jf (r := true) Z Z Z Z) (L.mv Z Z (lT Z Z Z (ae Z) (lT Z Z Z (ae Z) (L.off Z Z Z Z Z Z (L.off Z Z Z Z Z Z (lT Z Z Z (aq Z Z Z) (L.pure Z (aq Z Z Z) (L.as Z Z (L.nil (At.then ?_)))))))))))))))))))
      refine At.ret (aB (aG ?_))
      refine aA (fO h f e j d p (S.life ⟨2, (a.node : Int), 0⟩ nd) (l ++ [FK.aV 3 a.tok]) ++ [bW w h dl (.slice A ns.length c) (.slice Aq ts.length cq) gr rds cr gy R cy gi ci gj cj, q6 Aq cq ts, cL (sX gr rds.length cr) (rds), q5 gy R cy (·.CE), q5 gi R ci (·.state), q5 gj R cj (·.CE), nodesOwn (.slice A ns.length c) ns]) Z Z ⟨rfl, f, e, j, p, _, R, _, _, _, _, _, hH2, (FK.Wt.refl R), rfl⟩ ?_
      show Ent _ (aW h d f :: cD f e j :: ap e p (S.life ⟨2, (a.node : Int), 0⟩ nd) :: au j d FK.J0 :: ak d (FK.cw (l ++ [FK.aV 3 a.tok]) 1) :: bW w h dl (.slice A ns.length c) (.slice Aq ts.length cq) gr rds cr gy R cy gi ci gj cj :: q6 Aq cq ts :: row 51 1 (sX gr rds.length cr) (rds).length (cP (rds)) :: q4 gy R cy (·.CE) :: q4 gi R ci (·.state) :: q4 gj R cj (·.CE) :: nodesOwn (.slice A ns.length c) ns :: fr)
      try unfold q4
      rw [htrl, hstl]
      exact al
     ·
      obtain rfl : wk = false := by cases wk with
       | true => exact absurd rfl HW
       | false => rfl
      refine Dr.start Z (dP 0 Z Z (ae Z) (dP 1 Z Z (am Z) (dP 2 Z Z (ab (off := 0) Z Z) (dL 3 Z Z (aa Z Z) (ag Z) (dP 4 Z Z (ab (off := 3) Z Z) (dL 5 Z Z (aa Z Z) (ag Z) ?_))))))
      refine dR 6 Z Z (ah Z Z Z hE cV (Ent.refl _) ?_)
      rintro v m ⟨rfl, rfl⟩
      refine aL (dK [true, true] (Kept.cons (ag Z) (Kept.cons (ag Z) Kept.nil)) ?_)
      refine dR 7 Z Z (ah Z Z Z hE (sV hquiet (hno Z)) (Ent.refl _) ?_)
      rintro v m ⟨rfl, rfl⟩
      refine bF (dK [false, false] Kept.nil (dP 8 Z Z (ax Z) (dE (At.then (At.seq (At.region (L.mv Z Z (L.mv Z Z (L.pure Z (aH (r := false) Z Z Z) (L.pure Z (jf (r := true) Z Z Z Z) (L.mv Z Z (lT Z Z Z (ae Z) (lT Z Z Z (ae Z) (lT Z Z Z (ae Z) (lT Z Z Z (aH (r := true) Z Z Z) (lT Z Z Z (aq Z Z Z) (L.pure Z (aq Z Z Z) (L.as Z Z (L.nil ?_)))))))))))))))))))
      refine At.then (At.ret (aB (aG ?_)))
      refine aA (fO h f e j d p S l ++ [bW w h dl (.slice A ns.length c) (.slice Aq ts.length cq) gr rds cr gy R cy gi ci gj cj, q6 Aq cq ts, cL (sX gr rds.length cr) (rds), q5 gy R cy (·.CE), q5 gi R ci (·.state), q5 gj R cj (·.CE), nodesOwn (.slice A ns.length c) ns]) Z Z ⟨rfl, f, e, j, p, _, R, _, _, _, _, _, hH.next, (FK.Wt.refl R), rfl⟩ ?_
      show Ent _ (aW h d f :: cD f e j :: ap e p S :: au j d FK.J0 :: ak d (FK.cw l 1) :: bW w h dl (.slice A ns.length c) (.slice Aq ts.length cq) gr rds cr gy R cy gi ci gj cj :: q6 Aq cq ts :: row 51 1 (sX gr rds.length cr) (rds).length (cP (rds)) :: q4 gy R cy (·.CE) :: q4 gi R ci (·.state) :: q4 gj R cj (·.CE) :: nodesOwn (.slice A ns.length c) ns :: fr)
      try unfold q4
      rw [htrl, hstl]
      exact al
    ·
     refine At.seq (At.region (L.pure Z (aH Z Z Z) (L.as Z Z (L.nil (At.then ?_)))))
     refine aE Z (fun c296 => ?_) (fun c296 => ?_)
     ·
      refine At.seq (Dr.start Z (dP 0 Z Z (ae Z) (dP 1 Z Z (am Z) (dP 2 Z Z (ab (off := 0) Z Z) (dL 3 Z Z (aa Z Z) (ag Z) (dP 4 Z Z (ab (off := 1) Z Z) (dL 5 Z Z (aa Z Z) (ag Z) ?_)))))))
      refine dR 6 Z Z (ah Z Z Z hE (di N 40 hN (by omega) (by omega)) (Ent.refl _) ?_)
      rintro v m ⟨kt, rfl, ⟨ht0, ht1⟩, rfl⟩
      refine aL ?_
      obtain ⟨kt, rfl⟩ : ∃ n : Nat, kt = n := ⟨kt.toNat, by omega⟩
      refine dK [false, true] (Kept.cons (ag Z) Kept.nil) (dP 7 Z Z (bz (r := (kt : Int)) Z Z Z (by rw [kE]; omega)) ?_)
      refine dR 8 Z Z (ah Z Z Z hE cV (Ent.refl _) ?_)
      rintro v m ⟨rfl, rfl⟩
      refine aL (dK [true] (Kept.cons (ag Z) Kept.nil) ?_)
      refine dR 9 Z Z (ah Z Z Z hE (oA (J := FK.J0) (n := kt) hL.ok (by omega) (by decide) Z hroom hquiet (by omega) (by omega)) (Ent.refl _) ?_)
      rintro v m ⟨rfl, U, hU, rfl⟩
      refine bF ?_
      rw [cW]
      obtain ⟨R2, hH2, hW2⟩ := hH.tick (by omega) (by omega) hU
      refine dK [false] Kept.nil (dP 10 Z Z (ax Z) (dE (At.then (At.seq (At.region (L.mv Z Z (L.pure Z (aH (r := true) Z Z Z) (L.as Z Z (L.nil (At.then (At.ret (aB (aG ?_)))))))))))))
      refine aA (fO h f e j d p U (l ++ [FK.aV 7 kt]) ++ [bW w h dl (.slice A ns.length c) (.slice Aq ts.length cq) gr rds cr gy R cy gi ci gj cj, q6 Aq cq ts, cL (sX gr rds.length cr) (rds), q5 gy R cy (·.CE), q5 gi R ci (·.state), q5 gj R cj (·.CE), nodesOwn (.slice A ns.length c) ns]) Z Z ⟨rfl, f, e, j, p, _, R2, _, _, _, _, _, hH2, hW2, rfl⟩ ?_
      show Ent _ (aW h d f :: cD f e j :: ap e p U :: au j d FK.J0 :: ak d (FK.cw (l ++ [FK.aV 7 kt]) 1) :: bW w h dl (.slice A ns.length c) (.slice Aq ts.length cq) gr rds cr gy R cy gi ci gj cj :: q6 Aq cq ts :: row 51 1 (sX gr rds.length cr) (rds).length (cP (rds)) :: q4 gy R cy (·.CE) :: q4 gi R ci (·.state) :: q4 gj R cj (·.CE) :: nodesOwn (.slice A ns.length c) ns :: fr)
      try unfold q4
      rw [htrl, hstl]
      exact al
     ·
      refine At.seq (At.region (L.pure Z (aH (r := true) Z Z (decide_eq_true (by omega))) (L.as Z Z (L.nil (At.then (aQ Z (At.seq (Dr.start Z (dP 0 Z Z (ae Z) (dP 1 Z Z (am Z) (dP 2 Z Z (ab (off := 0) Z Z) (dL 3 Z Z (aa Z Z) (ag Z) (dP 4 Z Z (ab (off := 2) Z Z) (dL 5 Z Z (aa Z Z) (ag Z) ?_))))))))))))))
      refine dR 6 Z Z (ah Z Z Z hE (uH (kept := kept) (part := 0) (by unfold i64; omega)) (Ent.refl _) ?_)
      rintro v m ⟨rfl, rfl⟩
      refine aJ (dK [false, false] Kept.nil (dE (At.then (At.seq (Dr.start Z (dP 0 Z Z (ae Z) (dP 1 Z Z (am Z) (dP 2 Z Z (ab (off := 0) Z Z) (dL 3 Z Z (aa Z Z) (ag Z) ?_)))))))))
      refine dR 4 Z Z (ah Z Z Z hE cV (Ent.refl _) ?_)
      rintro v m ⟨rfl, rfl⟩
      refine aL (dK [true] (Kept.cons (ag Z) Kept.nil) ?_)
      refine dR 5 Z Z (ah Z Z Z hE (sR (by have := hH.lg.len; omega) hH.lg.reds) (Ent.refl _) ?_)
      rintro v m ⟨rfl, f', e', j', p', rfl⟩
      refine bF (dK [false] Kept.nil (dP 6 Z Z (ax Z) (dE (At.then (At.seq (At.region (L.mv Z Z (L.pure Z (aH (r := true) Z Z Z) (L.as Z Z (L.nil (At.then (At.ret (aB (aG ?_))))))))))))))
      refine aA (fO h f' e' j' d p' S l ++ [bW w h dl (.slice A ns.length c) (.slice Aq ts.length cq) gr rds cr gy R cy gi ci gj cj, q6 Aq cq ts, cL (sX gr rds.length cr) (rds), q5 gy R cy (·.CE), q5 gi R ci (·.state), q5 gj R cj (·.CE), nodesOwn (.slice A ns.length c) ns]) Z Z ⟨rfl, f', e', j', p', _, R, _, _, _, _, _, hH.next, (FK.Wt.refl R), rfl⟩ ?_
      show Ent _ (aW h d f' :: cD f' e' j' :: ap e' p' S :: au j' d FK.J0 :: ak d (FK.cw l 1) :: bW w h dl (.slice A ns.length c) (.slice Aq ts.length cq) gr rds cr gy R cy gi ci gj cj :: q6 Aq cq ts :: row 51 1 (sX gr rds.length cr) (rds).length (cP (rds)) :: q4 gy R cy (·.CE) :: q4 gi R ci (·.state) :: q4 gj R cj (·.CE) :: nodesOwn (.slice A ns.length c) ns :: fr)
      try unfold q4
      rw [htrl, hstl]
      exact al
end Go.Proofs.YtmeegfamopaljaaGreatDoor

namespace FK
structure Ev where
 kind : Int
 n : Int
 kept : Int
end FK
namespace Go.Proofs.YtmeegfamopaljaaGreatDoor
open Go Go.RowKit Go.SL
abbrev evL (x : FK.Ev) : List Value := [.int .i64 x.kind, .int .i64 x.n, .int .i64 x.kept]
structure EvsAt (w : World) (B : Nat) (A : Option Addr) (c : Nat) (l : List FK.Ev) : Prop where
 rng : ∀ x ∈ l, i64 x.kind ∧ i64 x.n ∧ i64 x.kept
 len : l.length ≤ c
 cap : c ≤ 9223372036854775807
 cells : 0 < l.length → ∃ b off, A = some ⟨b, off, none⟩ ∧ b < B ∧ ∀ i x, l[i]? = some x → ∀ j u, (evL x)[j]? = some u → w.cell? ⟨b, off + i * 3 + j, none⟩ = some u
theorem EvsAt.keep {w w' : World} {B : Nat} {A : Option Addr} {c : Nat} {l : List FK.Ev} (h : EvsAt w B A c l) (s : Same B w w') : EvsAt w' B A c l := by
 obtain ⟨h0, h1, h2, h3⟩ := h
 refine ⟨h0, h1, h2, fun hl => ?_⟩
 obtain ⟨b, off, rfl, hb, hc⟩ := h3 hl
 exact ⟨b, off, rfl, hb, fun i x hx j u hu => by rw [s.cell hb]; exact hc i x hx j u hu⟩
set_option maxRecDepth 20000 in
set_option maxHeartbeats 10000000 in
theorem qV (CG deadline : Int) (hnodes : i64 CG) (hdl : i64 deadline) (A1 A2 A3 : Option Addr) (c1 c2 c3 : Nat) (bits numbers : List Int) (evs : List FK.Ev) :
 Gives Tryz.prog Good 5 [.int .i64 CG, .slice A1 bits.length c1, .slice A2 numbers.length c2, .int .i64 deadline, .slice A3 evs.length c3].toArray (fun w => (IntsAt w w.heap.size A1 c1 bits ∧ IntsAt w w.heap.size A2 c2 numbers) ∧ EvsAt w w.heap.size A3 c3 evs)
  fun v m => v = .bool true ∧ m = [] := by
 refine Gives.body Tryz.func5 Z Z fun E w0 hE h0 hN => ?_
 have hevs := hN.2
 have hcap := hevs.cap
 have hlen := hevs.len
 refine At.seq (At.region (L.as Z Z (L.nil (At.then (At.seq (At.region (L.mv Z Z (L.mv Z Z (L.mv Z Z (L.mv Z Z ?_))))))))))
 refine L.op Z (fE Z Z Z hE (xh CG deadline hnodes hdl A1 A2 c1 c2 bits numbers) (fun w hw => ⟨kg .head h0 hN.1.1 (Nat.le_refl _) w hw, kg .head h0 hN.1.2 (Nat.le_refl _) w hw⟩) ?_)
 rintro v m ⟨dl, ns, A', c', hdl', hn1, hn12, hlow, rfl, rfl⟩
 refine ai ?_
 have hfit := hlow.fit (d := dl) hdl' hn1 hn12
 refine L.op Z (aN (z := .agg #[.int .i64 0, .slice none 0 0]) Z Z fun b11 => ?_)
 refine L.op Z (aK Z (m := 2) (vs := [.int .i64 dl, .slice A' ns.length c']) Z Z Z Z (by simp [Value.oneCell']) (by simp [Value.cells]) ?_)
 refine L.nil (At.then (At.seq (At.region (L.val Z (ao (vs := [.int .i64 dl, .slice A' ns.length c']) Z Z Z Z) (aw Z) ?_))))
 refine L.op Z (ah Z Z Z hE (ua dl ns A' c' hfit) (Ent.sel (.tail .head)) ?_)
 rintro v m ⟨w, h, f, e, j, d, p, l, R, rv, yv, rfl, hseen, hlg, rfl⟩
 obtain ⟨S, hS⟩ : ∃ S, S = FK.o8.submit ⟨dl, ns⟩ := ⟨_, rfl⟩
 rw [← hS] at hseen hlg ⊢
 have hlenR : R.CF.length = ns.length := by rw [(hseen.lone.ok.run 2 R hseen.lone.get).len, hseen.lone.fl]
 have hzero : ∀ (k : Nat) (y : Int) (s : FK.Sp), (List.replicate ns.length (0 : Int))[k]? = some y → R.CF[k]? = some s → y ≤ s.CE := fun k y s hy hs => by
  obtain ⟨n, _, hp⟩ := hseen.lone.ok.node hseen.lone.get hs
  rw [List.getElem?_replicate] at hy
  split at hy
  · injection hy with hy
    subst hy
    exact hp.tr0
  · cases hy
 have hst0 : FK.HonSt ⟨dl, ns⟩ l S R (List.replicate ns.length 0) [] 0 := by
  obtain ⟨R2, _, _, _, b1, _, b2, b3, b4, b5⟩ := FK.Seen.begin FK.pf (by decide) hfit rfl FK.rH
  rw [show (FK.Lg (3000 + 40 * 0) l S) = FK.Lg 3000 l S from rfl] at *
  refine ⟨⟨hseen.lone, fun k s hs => ?_, hseen.tsk⟩, hlg, ⟨?_, ?_, ?_, ?_, ?_⟩, by simp, Nat.le_refl _⟩
  · have h00 : (List.replicate ns.length 0).getD k 0 = 0 := by
     rw [List.getD_eq_getElem?_getD, List.getElem?_replicate]
     split <;> rfl
    show ((_ → (List.replicate ns.length 0).getD k 0 ≤ _) ∧ _)
    rw [h00]
    exact ⟨fun _ => Nat.zero_le _, fun _ _ _ => Nat.zero_le _⟩
  · rw [hS]; exact Nat.le_trans (Nat.le_of_eq b2) (by decide)
  · rw [hS]; exact Nat.le_trans (Nat.le_of_eq b3) (by decide)
  · rw [hS]; exact Nat.le_trans (Nat.le_of_eq b4) (by decide)
  · rw [hS]; exact Nat.le_trans (Nat.le_of_eq b5) (by decide)
  · rw [hS]; exact Nat.le_trans (Nat.le_of_eq b1) (by decide)
 refine At.ent (l' := dj w h dl (.slice A' ns.length c') 2 nS rv yv 0 0 nS nS :: cL rv (List.replicate ns.length 0) :: aF yv (List.replicate ns.length 0) :: nodesOwn (.slice A' ns.length c') ns :: aW h d f :: cD f e j :: ap e p S :: au j d FK.J0 :: ak d (FK.cw l 1) :: old E w0 :: []) (by show Ent (dj w h dl (.slice A' ns.length c') 2 nS rv yv 0 0 nS nS :: cL rv (List.replicate ns.length 0) :: aF yv (List.replicate ns.length 0) :: nodesOwn (.slice A' ns.length c') ns :: aW h d f :: cD f e j :: ap e p S :: au j d FK.J0 :: ak d (FK.cw l 1) :: blk b11 29 _ :: old E w0 :: []) _; exact al) ?_
 refine L.as Z Z (L.nil (At.then (At.seq (At.seq ?_))))
 by_cases H4 : evs.length ≤ 400
 ·
  refine At.region (L.mv Z Z (L.pure Z (cX Z Z Z) (L.mv Z Z (lT Z Z Z (ae Z) (lT Z Z Z (aM Z Z) (lT Z Z Z (cG (r := false) Z Z (decide_eq_false (by omega))) (L.pure Z (aq Z Z Z) (L.nil (At.then (aj Z (At.skip (At.then (At.seq ?_)))))))))))))
  refine At.ent (Ent.row0 (e := 3) (size := 1)) ?_
  refine At.ent (l' := aW h d f :: cD f e j :: ap e p S :: au j d FK.J0 :: ak d (FK.cw l 1) :: dj w h dl (.slice A' ns.length c') 2 nS rv yv 0 0 nS nS :: aF yv (List.replicate ns.length 0) :: row 3 1 nS 0 [] :: nodesOwn (.slice A' ns.length c') ns :: cL rv (List.replicate ns.length 0) :: row 55 4 nS 0 [] :: old E w0 :: []) (by show Ent (row 3 1 nS 0 [] :: _) _; exact (Ent.row0 (e := 55) (size := 4)).trans al) ?_
  refine At.region (L.mv Z Z ?_)
  refine L.op Z (ah Z Z Z hE (n9 (irun := 0) (tv := .slice none 0 0) (rv := rv) (jv := .slice none 0 0) hst0.seen.lone (by simp) hzero (.inl Z)) (Ent.refl _) ?_)
  rintro v m ⟨rfl, yv1, iv1, jv1, rfl⟩
  refine L.as Z Z (L.nil (At.then (At.seq (At.seq (At.region (L.as Z Z (L.nil (At.then (At.block ?_)))))))))
  refine bk (X := Nat × Nat × Nat × Nat × EA × FK.En × FK.Rn × List (List UInt8) × List Nat × List FK.Hd × Value × Value × Value × Value × Value) (fun x => [(14, .int .i64 x.1), (13, .bool true), (12, aO w), (4, .slice A3 evs.length c3), (10, .bool false)]) (fun x => aW h d x.2.1 :: cD x.2.1 x.2.2.1 x.2.2.2.1 :: ap x.2.2.1 x.2.2.2.2.1 x.2.2.2.2.2.1 :: au x.2.2.2.1 d FK.J0 :: ak d (FK.cw x.2.2.2.2.2.2.2.1 1) :: dj w h dl (.slice A' ns.length c') 2 x.2.2.2.2.2.2.2.2.2.2.1 x.2.2.2.2.2.2.2.2.2.2.2.1 x.2.2.2.2.2.2.2.2.2.2.2.2.1 2 x.2.2.2.2.2.2.1.state x.2.2.2.2.2.2.2.2.2.2.2.2.2.1 x.2.2.2.2.2.2.2.2.2.2.2.2.2.2 :: row 55 4 x.2.2.2.2.2.2.2.2.2.2.1 (x.2.2.2.2.2.2.2.2.2.1).length (dD x.2.2.2.2.2.2.2.2.2.1) :: cL x.2.2.2.2.2.2.2.2.2.2.2.1 x.2.2.2.2.2.2.2.2.1 :: aF x.2.2.2.2.2.2.2.2.2.2.2.2.1 (x.2.2.2.2.2.2.1.CF.map (·.CE)) :: aF x.2.2.2.2.2.2.2.2.2.2.2.2.2.1 (x.2.2.2.2.2.2.1.CF.map (·.state)) :: aF x.2.2.2.2.2.2.2.2.2.2.2.2.2.2 (x.2.2.2.2.2.2.1.CF.map (·.CE)) :: nodesOwn (.slice A' ns.length c') ns :: old E w0 :: []) (fun x => x.1 ≤ evs.length ∧ FK.HonSt ⟨dl, ns⟩ x.2.2.2.2.2.2.2.1 x.2.2.2.2.2.1 x.2.2.2.2.2.2.1 x.2.2.2.2.2.2.2.2.1 x.2.2.2.2.2.2.2.2.2.1 x.1) (fun x => evs.length - x.1) (0, f, e, j, p, S, R, l, List.replicate ns.length 0, [], .slice none 0 0, rv, yv1, iv1, jv1) ⟨Nat.zero_le _, hst0⟩ ⟨rfl, rfl, rfl, rfl, rfl, trivial⟩ (by show Ent (aW h d f :: cD f e j :: ap e p S :: au j d FK.J0 :: ak d (FK.cw l 1) :: dj w h dl (.slice A' ns.length c') 2 nS rv yv1 2 R.state iv1 jv1 :: aF yv1 (R.CF.map (·.CE)) :: aF iv1 (R.CF.map (·.state)) :: aF jv1 (R.CF.map (·.CE)) :: nodesOwn (.slice A' ns.length c') ns :: cL rv (List.replicate ns.length 0) :: row 55 4 nS 0 [] :: old E w0 :: []) (aW h d f :: cD f e j :: ap e p S :: au j d FK.J0 :: ak d (FK.cw l 1) :: dj w h dl (.slice A' ns.length c') 2 nS rv yv1 2 R.state iv1 jv1 :: row 55 4 nS 0 [] :: cL rv (List.replicate ns.length 0) :: aF yv1 (R.CF.map (·.CE)) :: aF iv1 (R.CF.map (·.state)) :: aF jv1 (R.CF.map (·.CE)) :: nodesOwn (.slice A' ns.length c') ns :: old E w0 :: []); exact al) ?_
  rintro ⟨i, f, e, j, p, S, R, l, rds, ts, tv, rv, yv, iv, jv⟩ ⟨hi, hH⟩
  replace hi : i ≤ evs.length := hi
  replace hH : FK.HonSt ⟨dl, ns⟩ l S R rds ts i := hH
  refine At.ent (l' := aW h d f :: cD f e j :: ap e p S :: au j d FK.J0 :: ak d (FK.cw l 1) :: dj w h dl (.slice A' ns.length c') 2 tv rv yv 2 R.state iv jv :: row 55 4 tv (ts).length (dD ts) :: cL rv rds :: aF yv (R.CF.map (·.CE)) :: aF iv (R.CF.map (·.state)) :: aF jv (R.CF.map (·.CE)) :: nodesOwn (.slice A' ns.length c') ns :: old E w0 :: []) (Ent.refl _) ?_
  refine At.seq (At.seq ?_)
  by_cases HI : i < evs.length
  ·
   refine At.region (L.mv Z Z (L.mv Z Z (L.pure Z (aM Z Z) (L.pure Z (bl (r := true) Z Z (decide_eq_true (by omega))) (L.mv Z Z (lT Z Z Z (ae Z) (L.pure Z (aq Z Z Z) (L.nil (At.then (aQ Z (At.skip (At.then (At.seq (At.block (At.seq ?_)))))))))))))))
   obtain ⟨bE, oE, rfl, hbE, hcell⟩ := hevs.cells (by omega)
   obtain ⟨x, hx⟩ : ∃ x, evs[i]? = some x := ⟨evs[i], List.getElem?_eq_getElem HI⟩
   obtain ⟨g1, g2, g3⟩ := hevs.rng x (List.mem_of_getElem? hx)
   refine At.region (L.mv Z Z (L.mv Z Z (L.mv Z Z (L.pure Z (aT (z := 3) Z Z Z Z HI) ?_))))
   refine L.val Z (ao (vs := evL x) Z Z Z Z) (tL (.tail (.tail (.tail (.tail (.tail (.tail (.tail (.tail (.tail (.tail (.tail (.tail (.head))))))))))))) h0 fun j u hj => hcell i x hx j u hj) ?_
   refine L.op Z (ah Z Z Z hE (uz (kept := x.kept) hH (by omega) g1 g2) (Ent.refl _) ?_)
   rintro v m ⟨rfl, f2, e2, j2, p2, S2, R2, l2, rds2, ts2, tv2, rv2, hH2, hW2, rfl⟩
   refine At.ent (l' := aW h d f2 :: cD f2 e2 j2 :: ap e2 p2 S2 :: au j2 d FK.J0 :: ak d (FK.cw l2 1) :: dj w h dl (.slice A' ns.length c') 2 tv2 rv2 yv 2 R.state iv jv :: aF yv (R.CF.map (·.CE)) :: aF iv (R.CF.map (·.state)) :: nodesOwn (.slice A' ns.length c') ns :: row 55 4 tv2 ts2.length (dD ts2) :: cL rv2 rds2 :: old E w0 :: []) (by show Ent (aW h d f2 :: cD f2 e2 j2 :: ap e2 p2 S2 :: au j2 d FK.J0 :: ak d (FK.cw l2 1) :: dj w h dl (.slice A' ns.length c') 2 tv2 rv2 yv 2 R.state iv jv :: row 55 4 tv2 ts2.length (dD ts2) :: cL rv2 rds2 :: aF yv (R.CF.map (·.CE)) :: aF iv (R.CF.map (·.state)) :: aF jv (R.CF.map (·.CE)) :: nodesOwn (.slice A' ns.length c') ns :: old E w0 :: []) _; exact al) ?_
   have hlR : R.CF.length = ns.length := by rw [(hH.seen.lone.ok.run 2 R hH.seen.lone.get).len, hH.seen.lone.fl]
   have hmono : ∀ (k : Nat) (y : Int) (s : FK.Sp), (R.CF.map (·.CE))[k]? = some y → R2.CF[k]? = some s → y ≤ s.CE := fun k y s hy hs => by
    rw [List.getElem?_map] at hy
    cases h0 : R.CF[k]? with
    | none => rw [h0] at hy; cases hy
    | some s0 =>
     rw [h0] at hy
     injection hy with hy
     subst hy
     exact (hW2.tr k s0 s h0 hs).1
   refine L.as Z Z (L.nil (At.then (At.seq (At.region (L.mv Z Z ?_)))))
   refine L.op Z (ah Z Z Z hE (n9 (irun := 2) hH2.seen.lone (by rw [List.length_map]; exact hlR) hmono (.inr ⟨R, rfl, rfl, hW2⟩)) (Ent.refl _) ?_)
   rintro v m ⟨rfl, yv3, iv3, jv3, rfl⟩
   refine L.as Z Z (L.nil (At.then (At.region (L.mv Z Z (L.mv Z Z (lT Z Z Z (ae Z) (L.pure Z (aq Z Z Z) (L.as Z Z (L.nil (an (At.then (At.region (L.mv Z Z (L.pure Z (aS (r := ((i + 1 : Nat) : Int)) Z Z (by rw [dd (by omega)]; omega)) (L.as Z Z (L.nil (At.round (i + 1, f2, e2, j2, p2, S2, R2, l2, rds2, ts2, tv2, rv2, yv3, iv3, jv3) ⟨HI, hH2⟩ (by show evs.length - (i + 1) < evs.length - i; omega) ⟨rfl, rfl, rfl, rfl, rfl, trivial⟩ ?_)))))))))))))))))
   show Ent (aW h d f2 :: cD f2 e2 j2 :: ap e2 p2 S2 :: au j2 d FK.J0 :: ak d (FK.cw l2 1) :: dj w h dl (.slice A' ns.length c') 2 tv2 rv2 yv3 2 R2.state iv3 jv3 :: aF yv3 (R2.CF.map (·.CE)) :: aF iv3 (R2.CF.map (·.state)) :: aF jv3 (R2.CF.map (·.CE)) :: nodesOwn (.slice A' ns.length c') ns :: row 55 4 tv2 ts2.length (dD ts2) :: cL rv2 rds2 :: old E w0 :: []) (aW h d f2 :: cD f2 e2 j2 :: ap e2 p2 S2 :: au j2 d FK.J0 :: ak d (FK.cw l2 1) :: dj w h dl (.slice A' ns.length c') 2 tv2 rv2 yv3 2 R2.state iv3 jv3 :: row 55 4 tv2 (ts2).length (dD ts2) :: cL rv2 rds2 :: aF yv3 (R2.CF.map (·.CE)) :: aF iv3 (R2.CF.map (·.state)) :: aF jv3 (R2.CF.map (·.CE)) :: nodesOwn (.slice A' ns.length c') ns :: old E w0 :: [])
   exact al
  ·
   refine At.region (L.mv Z Z (L.mv Z Z (L.pure Z (aM Z Z) (L.pure Z (bl (r := false) Z Z (decide_eq_false (by omega))) (L.mv Z Z (L.off Z Z Z Z Z Z (L.pure Z (aq Z Z Z) (L.nil (At.then (aj Z (At.exit (az (ay (ar (At.then (At.seq (At.region (L.mv Z Z (L.as Z Z (L.nil (At.then (At.ret ?_))))))))))))))))))))))
   refine aA [] rfl Z ⟨rfl, rfl⟩ ?_
   show Ent _ [old E w0]
   exact al
 ·
  refine At.region (L.mv Z Z (L.pure Z (cX Z Z Z) (L.mv Z Z (lT Z Z Z (ae Z) (lT Z Z Z (aM Z Z) (lT Z Z Z (cG (r := true) Z Z (decide_eq_true (by omega))) (L.pure Z (aq Z Z Z) (L.nil (At.then (aQ Z (At.seq (At.region (L.mv Z Z (L.pure Z (uS Z Z Z) (L.as Z Z (L.nil (At.then (At.ret (aG ?_)))))))))))))))))))
  refine aA [] rfl Z ⟨rfl, rfl⟩ ?_
  show Ent _ [old E w0]
  exact al
end Go.Proofs.YtmeegfamopaljaaGreatDoor
