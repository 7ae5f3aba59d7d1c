/- The engine's wake. -/
import Derived.Test.YtmeegfamopaljaaGreatDoorEdO
namespace Go.Proofs.YtmeegfamopaljaaGreatDoor
open Go Go.RowKit Go.SL
variable {G : Env → Prop}
theorem el {b : Nat} {xs : List Int} {r : List HP} (h : xs.length ≤ maxLen) : Ent (blk b 3 (cI xs).toArray :: r) (bh (.slice (some ⟨b, 0, none⟩) xs.length xs.length) xs :: r) :=
 cq (Nat.le_refl _) h (by simp [cI]) (by rw [List.take_of_length_le (by simp [cI])])
abbrev vT (fl : FK.Flow) : Prop := ∀ nd ∈ fl.nodes, ∀ x ∈ nd.after, 0 ≤ x ∧ x < (fl.nodes.length : Int)
set_option maxRecDepth 10000 in
set_option maxHeartbeats 1000000 in
theorem oW {e : Nat} {p : EA} {S : FK.En} {id : Nat} {R : FK.Rn} (hR : S.getR id = some R) (hlen : R.steps.length = R.fl.nodes.length) (hfit : vT R.fl) (hn : R.fl.nodes.length ≤ 100) (hq : S.queue.length ≤ 300) : Does Tryz.prog G 160 [aL e, bc id].toArray [ap e p S] fun v m => v = .tuple #[] ∧ m = [ap e p (S.wake id)] := by
 refine Does.body Tryz.func160 Z Z fun E fr hE => ?_
 refine ai (z7 (At.seq (At.region (L.mv Z Z (aN Z Z (aE 1 Z Z Z ?_))))))
 refine L.val Z (aa (v := .map (some p.rm)) Z Z) (aQ fun _ _ _ => rfl) ?_
 refine L.mv Z Z (L.val Z (eB (m := dw S p) Z dD Z Z (eS hR)) cS (L.as Z Z (L.nil (At.then (At.seq (z8 (At.then (At.seq (At.region (L.mv Z Z (aN Z Z (aE 0 Z Z Z (aE 1 Z Z Z (L.val Z (aa (v := (p.ra id).nv R) Z Z) (bN hR Z) (L.pure Z (aP Z Z) (L.mv Z Z (L.nil (At.then (At.block ?_)))))))))))))))))))
 refine aT (X := Nat) (fun k => [(21, .int .i64 k), (20, .int .i64 R.fl.nodes.length), (19, (p.ra id).nv R), (4, aL (p.fb id)), (0, aL e), (1, bc id)]) (fun k => ap e p (S.wakeN id k) :: fr) (fun k => k ≤ R.fl.nodes.length) (fun k => R.fl.nodes.length - k) 0 (Nat.zero_le _) ⟨rfl, rfl, rfl, rfl, rfl, rfl, trivial⟩ (Ent.refl _) ?_
 intro k hk
 refine At.seq (At.region (L.pure Z (bf Z Z Z) (L.nil (At.then (At.seq ?_)))))
 refine aC Z (fun c22 => ?_) (fun c22 => ?_)
 ·
  have hlt : k < R.fl.nodes.length := by omega
  obtain ⟨R1, hR1, hS1, hq1⟩ := FK.ni hR k
  obtain ⟨nd, db⟩ : ∃ nd, R.fl.nodes[k]? = some nd := ⟨R.fl.nodes[k], by simp [hlt]⟩
  have hnd1 : R1.fl.nodes[k]? = some nd := by rw [hS1.fl]; exact db
  obtain ⟨s, hs⟩ : ∃ s, R1.steps[k]? = some s := ⟨R1.steps[k]'(by rw [hS1.len]; omega), by simp [hS1.len, hlen, hlt]⟩
  refine eC (fun w hw => jB hR1 hnd1 hw) fun hA => ?_
  obtain ⟨A, c, hu, hA1, hA2, hA3, hA4⟩ := hA
  replace hA4 : c ≤ 9223372036854775807 := hA4
  refine At.skip (At.then (At.seq (At.block (At.seq (At.region (L.mv Z Z (L.pure Z (bD (z := 7) Z Z Z Z hlt) (L.val Z (am (vs := aw nd (.slice A nd.after.length c)) Z Z Z Z) (de hR1 hnd1 hu) (L.op Z (aH (z := .agg #[.int .i64 0, .int .i64 0, .int .i64 0, .int .i64 0, .int .i64 0, .int .i64 0, .slice none 0 0]) Z Z fun b6 => (L.as Z Z ?_)))))))))))
  refine L.op Z (aG (vs := aw nd (.slice A nd.after.length c)) Z (m := 7) Z Z Z Z (by simp [aw, Value.oneCell']) (by show 0 + 7 ≤ 7; omega) ?_)
  refine At.ent (l' := blk b6 46 (aw nd (.slice A nd.after.length c)).toArray :: ap e p (S.wakeN id k) :: fr) (Ent.refl _) (L.nil (At.then (At.seq (At.seq (At.region (L.mv Z Z (L.mv Z Z (L.op Z (cK Z Z Z Z Z Z fun b28 => ?_)))))))))
  refine L.op Z (ah Z Z Z hE (mW [1] (some ⟨b28, 0, none⟩) 1 hR1 hs) ((aK (.tail (.tail (.head))) .head).trans (Ent.cons (el (xs := [1]) (show 1 ≤ 9223372036854775807 by omega)))) ?_)
  rintro v m ⟨rfl, rfl⟩
  refine ai (L.pure Z (ck Z Z) (L.nil (At.then ?_)))
  refine eD Z (fun c30 => ?_) (fun c30 => ?_)
  ·
   have hs1 : s.state ≠ 1 := by simpa using c30
   refine At.exit (au (an (At.then (At.region ?_))))
   refine L.pure Z (aO (r := ((k + 1 : Nat) : Int)) Z Z (by rw [cT (by omega)]; omega)) ?_
   refine L.mv Z Z (L.nil ?_)
   exact At.round (k + 1) hlt (by omega) ⟨rfl, rfl, rfl, rfl, rfl, rfl, trivial⟩ (by
    rw [FK.e8, FK.ju hR1, FK.j4 hs hnd1, if_neg (by simp [hs1])]
    exact Ent.cons Ent.drop)
  ·
   have hs1 : s.state = 1 := by simpa using c30
   refine At.skip (At.then (At.seq (At.seq (At.region (aE 6 Z Z Z (aX Z Z Z Z (L.pure Z (aP Z Z) (L.mv Z Z (L.nil (At.then (At.block ?_)))))))))))
   refine aT (X := Nat) (fun j => [(34, .int .i64 j), (33, .int .i64 nd.after.length), (32, .slice A nd.after.length c), (21, .int .i64 k), (20, .int .i64 R.fl.nodes.length), (19, (p.ra id).nv R), (4, aL (p.fb id)), (0, aL e), (1, bc id), (5, .int .i64 k)]) (fun j => ap e p (S.wakeN id k) :: fr) (fun j => j ≤ nd.after.length ∧ ∀ i x, i < j → nd.after[i]? = some x → FK.bR R1.steps x.toNat 5 = true) (fun j => nd.after.length - j) 0 ⟨Nat.zero_le _, fun i x h => by omega⟩ ⟨rfl, rfl, rfl, rfl, rfl, rfl, rfl, rfl, rfl, rfl, trivial⟩ (Ent.cons Ent.drop) ?_
   rintro j ⟨hj, hall⟩
   refine At.seq (At.region (L.pure Z (bf Z Z Z) (L.nil (At.then (At.seq ?_)))))
   refine aC Z (fun c35 => ?_) (fun c35 => ?_)
   ·
    have hjl : j < nd.after.length := by omega
    obtain ⟨g, rfl⟩ : ∃ g, A = some ⟨g, 0, none⟩ := by
     cases A with
     | none => have := (hA1 rfl).1; omega
     | some ad => obtain ⟨g, rfl⟩ := hA2 ad rfl; exact ⟨g, rfl⟩
    obtain ⟨x, hx⟩ : ∃ x, nd.after[j]? = some x := ⟨nd.after[j], by simp [hjl]⟩
    obtain ⟨hx0, hxn⟩ := hfit nd (List.mem_of_getElem? db) x (List.mem_of_getElem? hx)
    obtain ⟨u, rfl⟩ : ∃ u : Nat, x = (u : Int) := ⟨x.toNat, by omega⟩
    obtain ⟨s2, hs2⟩ : ∃ s2, R1.steps[u]? = some s2 := ⟨R1.steps[u]'(by rw [hS1.len]; omega), by simp⟩
    refine At.skip (At.then (At.seq (At.block (At.seq (At.region (L.pure Z (bD (z := 1) Z Z Z Z hjl) (L.val Z (aa (v := .int .i64 (u : Int)) Z Z) (rY hR1 hnd1 hu hx) (L.as Z Z (L.nil (At.then (At.seq (At.region (L.mv Z Z (L.mv Z Z (L.op Z (cK Z Z Z Z Z Z fun b40 => ?_))))))))))))))))
    refine L.op Z (ah Z Z Z hE (mW [5] (some ⟨b40, 0, none⟩) 1 hR1 hs2) ((aK (.tail (.head)) .head).trans (Ent.cons (el (xs := [5]) (show 1 ≤ 9223372036854775807 by omega)))) ?_)
    rintro v m ⟨rfl, rfl⟩
    refine ai (L.pure Z (ck Z Z) (L.nil (At.then ?_)))
    refine eD Z (fun c42 => ?_) (fun c42 => ?_)
    ·
     have hs5 : s2.state ≠ 5 := by simpa using c42
     have hno : (nd.after.all fun u => FK.bR R1.steps u.toNat 5) = false := by
      rw [List.all_eq_false]
      exact ⟨_, List.mem_of_getElem? hx, by rw [Int.toNat_natCast, FK.cR hs2]; simpa using hs5⟩
     refine At.exit (dv Z (au (ar (dv Z (au (an (At.then (At.region ?_))))))))
     refine L.pure Z (aO (r := ((k + 1 : Nat) : Int)) Z Z (by rw [cT (by omega)]; omega)) ?_
     refine L.mv Z Z (L.nil ?_)
     exact At.round (k + 1) hlt (by omega) ⟨rfl, rfl, rfl, rfl, rfl, rfl, trivial⟩ (by
      rw [FK.e8, FK.ju hR1, FK.j4 hs hnd1, hno, if_neg (by simp)]
      exact Ent.refl _)
    ·
     have hs5 : s2.state = 5 := by simpa using c42
     refine At.skip (al (At.then (At.region ?_)))
     refine L.pure Z (aO (r := ((j + 1 : Nat) : Int)) Z Z (by rw [cT (by omega)]; omega)) ?_
     refine L.mv Z Z (L.nil ?_)
     exact At.round (j + 1) ⟨hjl, fun i y hi hy => (by
      rcases Nat.lt_succ_iff_lt_or_eq.1 hi with h | rfl
      · exact hall i y h hy
      · rw [hx] at hy; injection hy with hy; subst hy; rw [Int.toNat_natCast, FK.cR hs2]; simpa using hs5)⟩ (by omega) ⟨rfl, rfl, rfl, rfl, rfl, rfl, rfl, rfl, rfl, rfl, trivial⟩ (Ent.refl _)
   ·
    have hyes : (nd.after.all fun u => FK.bR R1.steps u.toNat 5) = true := by
     rw [List.all_eq_true]
     intro y hy
     obtain ⟨i, hi, rfl⟩ := List.getElem_of_mem hy
     exact hall i _ (by omega) (List.getElem?_eq_getElem hi)
    refine At.exit (au (ar (an (At.then (At.region (L.mv Z Z (L.mv Z Z (L.mv Z Z (L.pure Z (bg (cs := #[.int .u64 id, .int .i64 (k : Int), .int .i64 0]) Z Z Z Z Z) ?_)))))))))
    refine L.op Z (ah Z Z Z hE (nX (wh := 0) hR1 hs (by omega)) (Ent.refl _) ?_)
    rintro v m ⟨rfl, rfl⟩
    refine ai (L.nil (al (At.then (At.region ?_))))
    refine L.pure Z (aO (r := ((k + 1 : Nat) : Int)) Z Z (by rw [cT (by omega)]; omega)) ?_
    refine L.mv Z Z (L.nil ?_)
    exact At.round (k + 1) hlt (by omega) ⟨rfl, rfl, rfl, rfl, rfl, rfl, trivial⟩ (by
     rw [FK.e8, FK.ju hR1, FK.j4 hs hnd1, hyes, if_pos (by simp [hs1])]
     exact Ent.refl _)
 ·
  have hke : k = R.fl.nodes.length := by omega
  refine At.exit (au (ar (an (uN ?_))))
  refine aZ [ap e p (S.wake id)] rfl ⟨rfl, rfl⟩ ?_
  have : S.wake id = S.wakeN id k := by unfold FK.En.wake; rw [hR, hke]
  rw [this]
  exact Ent.refl _
end Go.Proofs.YtmeegfamopaljaaGreatDoor

namespace FK
theorem mB {q : List Pl} {x : Pl} (id : Nat) : (q ++ [x]).filter (fun p => p.run != id) = q.filter (fun p => p.run != id) ++ if x.run != id then [x] else [] := by
 rw [List.filter_append]
 simp [List.filter_cons]
end FK
namespace Go.Proofs.YtmeegfamopaljaaGreatDoor
open Go Go.RowKit Go.SL
variable {G : Env → Prop}
theorem neI (a b : Nat) : (a != b) = decide ((a : Int) ≠ (b : Int)) := by
 by_cases h : a = b
 · subst h; simp
 · rw [decide_eq_true (by omega)]; simpa using h
set_option maxRecDepth 10000 in
theorem qO (c id : Nat) (q : FK.Pl) : Does Tryz.prog G 259 [fZ q, aL c].toArray [blk c 51 #[bc id]] fun v m => v = .bool (q.run != id) ∧ m = [blk c 51 #[bc id]] := by
 refine Does.body Tryz.func259 Z Z fun E fr hE => ?_
 refine ai (At.seq (At.region (L.op Z (cc Z Z fun b2 => (L.as Z Z (L.nil (At.then (At.seq (At.region (aE 0 Z Z Z (aX Z Z Z Z (aX Z Z Z Z (L.pure Z (cr Z Z Z) (L.as Z Z (L.nil (At.then (At.ret ?_)))))))))))))))))
 exact aA [_] rfl Z ⟨by rw [neI], rfl⟩ Ent.drop
theorem BW {E : Env} {l r : List HP} {e : Nat} {C : EC} {q : List FK.Pl} (s : Sel (cD e C q) l r) : ∀ w, Holds E w l → bI ⟨e, 5, none⟩ (.int .i64 q.length) w := fun w hw => by
 obtain ⟨F1, _, _, _, _, hp, _⟩ := (hw.sel s).star
 obtain ⟨⟨rv, N, f, rg⟩, h1⟩ := hp
 have h2 : (kG e C rv f q.length).sat w F1 := Star.mem (l := [HP.pure (FK.RingOk N f q rg), kG e C rv f q.length, row 268 3 rv N (rV N rg)]) h1 (by simp)
 have := h2.2
 simp only [bI, World.cell?, this]
 rfl
set_option maxRecDepth 10000 in
theorem xb {q : List FK.Pl} (e : Nat) (C : EC) (c id : Nat) (hq : q.length ≤ 400) : Does Tryz.prog G 258 [ox e, .func (.func 259) #[] #[aL c]].toArray [cD e C q, blk c 51 #[bc id]] fun v m => v = .tuple #[] ∧ m = [cD e C (q.filter fun p => p.run != id)] := by
 refine Does.body Tryz.func258 Z Z fun E fr hE => ?_
 refine aF (At.seq (At.region (L.mv Z Z (aN Z Z (aE 2 Z Z Z (L.val Z (aa (v := .int .i64 q.length) Z Z) (BW .head) (L.as Z Z (L.nil (At.then (At.block ?_))))))))))
 refine aT (X := List FK.Pl × List FK.Pl) (fun x => [(4, .int .i64 x.2.length), (0, ox e), (1, .func (.func 259) #[] #[aL c])]) (fun x => cD e C (x.2 ++ x.1.filter fun p => p.run != id) :: blk c 51 #[bc id] :: fr) (fun x => x.1 ++ x.2 = q) (fun x => x.2.length) ([], q) Z ⟨rfl, rfl, rfl, trivial⟩ (by
   show Ent _ (cD e C (q ++ []) :: _)
   rw [List.append_nil]
   exact Ent.refl _) ?_
 rintro ⟨done, left⟩ hdl
 simp only at hdl ⊢
 refine At.seq (At.seq (At.region (L.mv Z Z (L.pure Z (dZ Z Z Z) (L.nil (At.then ?_))))))
 refine aC Z (fun c12 => ?_) (fun c12 => ?_)
 ·
  obtain ⟨x, left, rfl⟩ : ∃ x l, left = x :: l := by
   cases left with
   | nil => simp at c12
   | cons x l => exact ⟨x, l, rfl⟩
  have hln : done.length + (left.length + 1) = q.length := by rw [← hdl]; simp
  have hfl := List.length_filter_le (fun p : FK.Pl => p.run != id) done
  refine At.skip (At.then (At.seq (At.block (At.seq (At.region (L.mv Z Z (L.op Z (ah Z Z Z hE (pi e C) (Ent.refl _) ?_))))))))
  rintro v m ⟨rfl, rfl⟩
  refine ai (L.mv Z Z (L.ex Z Z Z (L.ex Z Z Z (L.op Z (aH (z := .agg #[.int .u64 0, .int .i64 0, .int .i64 0]) Z Z fun b5 => ?_)))))
  refine L.op Z (aG (vs := fE x) Z (m := 3) Z Z Z Z (by simp [Value.oneCell']) (by show 0 + 3 ≤ 3; omega) ?_)
  refine At.ent (l' := blk b5 268 (fE x).toArray :: cD e C (left ++ done.filter fun p => p.run != id) :: blk c 51 #[bc id] :: fr) (Ent.refl _) ?_
  refine L.as Z Z (L.nil (At.then (At.seq (At.region (L.mv Z Z (L.val Z (am (vs := fE x) Z Z Z Z) (av Z) (L.op Z (jO Z Z Z Z hE (qO c id x) (Ent.sel (.tail (.tail (.head)))) ?_))))))))
  rintro v m ⟨rfl, rfl⟩
  refine ai (L.nil (At.then ?_))
  refine eD Z (fun c22 => ?_) (fun c22 => ?_)
  ·
   refine At.region (L.mv Z Z (L.val Z (am (vs := fE x) Z Z Z Z) (av Z) ?_))
   refine L.op Z (ah Z Z Z hE (nW e C x (by rw [List.length_append]; omega)) (Ent.sel (.tail (.tail (.head)))) ?_)
   rintro v m ⟨rfl, rfl⟩
   refine ai (L.nil (al (At.then (At.region (L.mv Z Z ?_)))))
   refine L.pure Z (eQ (r := (left.length : Int)) Z Z (by rw [cT (by simp; omega)]; simp)) ?_
   refine L.as Z Z (L.nil ?_)
   exact At.round (done ++ [x], left) (by rw [← hdl]; simp) (by simp) ⟨rfl, rfl, rfl, trivial⟩ (by
    show Ent _ (cD e C (left ++ (done ++ [x]).filter fun p => p.run != id) :: _)
    rw [FK.mB, if_pos c22, ← List.append_assoc]
    exact Ent.cons (Ent.cons Ent.drop))
  ·
   refine At.skip (al (At.then (At.region (L.mv Z Z ?_))))
   refine L.pure Z (eQ (r := (left.length : Int)) Z Z (by rw [cT (by simp; omega)]; simp)) ?_
   refine L.as Z Z (L.nil ?_)
   exact At.round (done ++ [x], left) (by rw [← hdl]; simp) (by simp) ⟨rfl, rfl, rfl, trivial⟩ (by
    show Ent _ (cD e C (left ++ (done ++ [x]).filter fun p => p.run != id) :: _)
    rw [FK.mB, if_neg (by simp [c22]), List.append_nil]
    exact (Ent.sel (.tail (.tail .head))).trans (Ent.cons (Ent.cons Ent.drop)))
 ·
  obtain rfl : left = [] := by
   cases left with
   | nil => rfl
   | cons x l => simp at c12
  rw [List.append_nil] at hdl
  subst hdl
  refine At.exit (au (ar (an ?_)))
  exact aZ [_] rfl ⟨rfl, rfl⟩ (Ent.cons Ent.drop)
theorem zr {e : Nat} {p : EA} {S : FK.En} (c id : Nat) (hq : S.queue.length ≤ 400) : Does Tryz.prog G 258 [ox e, .func (.func 259) #[] #[aL c]].toArray [ap e p S, blk c 51 #[bc id]] fun v m => v = .tuple #[] ∧ m = [ap e p { S with queue := S.queue.filter fun p => p.run != id }] := by
 refine Does.part (c := [HP.pure (cJ S), bF bc p.rm (dw S p), d9 p S.runs, bF bc p.tm (cm S), cv p.w S.now S.sets S.tms]) (xb e (hY S p) c id hq) ?_ ?_
 · refine (Ent.unall (m := iC e p S)).trans ((aK (.tail .head) (.tail (.tail (.tail (.tail (.tail .head)))))).trans ?_)
   exact Ent.refl _
 · rintro v m ⟨rfl, rfl⟩
   exact ⟨_, ⟨rfl, rfl⟩, (Ent.sel (.tail .head)).trans (Ent.all (m := iC e p { S with queue := S.queue.filter fun p => p.run != id }))⟩
section
variable {P : Program} {E : Env} {n : Nat} {D : List Deferred} {ts : List (Nat × Value)} {l : List HP} {Q : Exit → Act → World → Prop} {i : Nat} {ty : TypeId} {pos : String} {af : Array Edge} {g : Option (Nat × Bool)}
theorem rz {t e : TypeId} {z : Value} {x y : Operand} {v u : Value} {K : Act → World → Prop} (hi : Nat.blt i n = true) (ht : P.underlying t = some (.slice e)) (hz : bZ P e 1) (hzz : fq P e z) (hx : ev ts x = some v) (hv : v.oneCell' = true) (hy : ev ts y = some u) (hu : u.oneCell' = true)
 (h : ∀ b, At E n D ((i, .slice (some ⟨b, 0, none⟩) 2 2) :: ts) (blk b e #[v, u] :: l) K) : At E n D ts l (fun a w => (Oper.mk (some i) (.buildSlice t 2 #[(0, x), (1, y)]) ty pos af g).wp P a w K Q) :=
 dT (ps := [(0, x), (1, y)]) (vs := [v, u]) (cs := #[v, u]) hi ht hz hzz (by omega) (by omega) (by simp [ou, hx, hy]) (by
  have e1 : Array.range (2 * 1) = #[0, 1] := rfl
  rw [e1]
  simp [Instr.fill, gH hv, gH hu]) h
end
set_option maxRecDepth 10000 in
set_option maxHeartbeats 1000000 in
theorem jI {e : Nat} {p : EA} {S : FK.En} {id : Nat} {st : Int} {R : FK.Rn} (hR : S.getR id = some R) (hn : R.steps.length ≤ 100) (hq : S.queue.length ≤ 400) (hl : S.tms.length ≤ 99999) (hends : S.ends < 9223372036854775807) : Does Tryz.prog G 235 [aL e, bc id, .int .i64 st].toArray [ap e p S] fun v m => v = .tuple #[] ∧ m = [ap e p (S.finish id st)] := by
 refine Does.body Tryz.func235 Z Z fun E fr hE => ?_
 refine ai (At.seq (At.region (L.op Z (cc Z Z fun b4 => (L.nil (At.then (At.seq (Dr.start Z (dP 0 Z Z (ag Z) (dP 1 Z Z (aq Z) (dP 2 Z Z (ab (off := 1) Z Z) ?_)))))))))))
 refine dL 3 Z Z (aa Z Z) (aQ fun _ _ _ => rfl) ?_
 refine dL 4 Z Z (aa Z Z) (ae Z) (dL 5 Z Z (eB (a := id) (v := aL (p.fb id)) Z dD Z Z (eS hR)) cS (dP 6 Z Z (az Z) (dE (At.then (At.seq (At.region (L.mv Z Z (aN Z Z (aE 9 Z Z Z ?_)))))))))
 refine L.val Z (aa (v := .int .u64 S.ends) Z Z) (aQ fun _ _ _ => rfl) ?_
 refine L.pure Z (aO (r := ((S.ends + 1 : Nat) : Int)) Z Z (by rw [lE]; omega)) ?_
 refine aN Z Z (aE 9 Z Z Z ?_)
 refine L.op Z (mT (S := S) (S' := { S with ends := S.ends + 1 }) Z Z Z (by omega) Z (fun _ _ _ => rfl) Z Z Z Z Z Z ?_)
 refine L.nil (At.then (At.seq ?_))
 obtain ⟨S1, hS1⟩ : ∃ S1, S1 = { S with ends := S.ends + 1 } := ⟨_, rfl⟩
 have hR1 : S1.getR id = some R := by rw [hS1]; exact hR
 have hE1 : S1.ends = S.ends + 1 := by rw [hS1]
 rw [← hS1]
 refine At.region (L.mv Z Z (L.mv Z Z (L.mv Z Z (L.mv Z Z (aN Z Z (aE 9 Z Z Z ?_))))))
 refine L.val Z (aa (v := .int .u64 ((S.ends + 1 : Nat) : Int)) Z Z) (aQ fun _ _ _ => by rw [← hE1]; rfl) ?_
 refine aN Z Z (aE 2 Z Z Z ?_)
 refine L.op Z (vn (R' := { R with state := st }) hR1 Z Z Z (by omega) Z Z Z Z ?_)
 refine aN Z Z (aE 4 Z Z Z ?_)
 refine L.op Z (vn (S := S1.setR id { R with state := st }) (R := { R with state := st }) (R' := { R with state := st, ended := S.ends + 1 }) (FK.cg hR1) Z Z Z (by omega) Z Z Z Z ?_)
 refine L.nil (At.then (At.seq (Dr.start Z (dP 0 Z Z (ag Z) (dP 1 Z Z (aq Z) (dP 2 Z Z (ab (off := 6) Z Z) ?_))))))
 refine dL 3 Z Z (aa Z Z) (aQ fun _ _ _ => rfl) ?_
 refine dL 4 Z Z (aa Z Z) (ae Z) (dP 5 Z Z (bg (cs := #[.int .u64 id, .int .i64 (-1), .int .i64 0]) Z Z Z Z Z) ?_)
 refine dR 6 Z Z (ah Z Z Z hE (nI ⟨id, -1, 0⟩ (by rw [hS1]; exact hl)) (Ent.refl _) ?_)
 rintro v m ⟨rfl, rfl⟩
 refine ai ?_
 refine Dr.kept [true, false] (by kernel_rfl) (Kept.cons (ae Z) Kept.nil) ?_
 refine dE (At.then (At.seq (At.seq ?_)))
 obtain ⟨T, hT⟩ : ∃ T, T = (S1.setR id { R with state := st, ended := S.ends + 1 }).unset ⟨id, -1, 0⟩ := ⟨_, rfl⟩
 have hRT : T.getR id = some { R with state := st, ended := S.ends + 1 } := by rw [hT]; exact FK.cg hR1
 have hlT : T.tms.length ≤ 99999 := by rw [hT, hS1]; exact Nat.le_trans (List.length_filter_le _ _) hl
 have hqT : T.queue = S.queue := by rw [hT, hS1]; rfl
 rw [FK.dX, ← hT]
 refine At.region (L.mv Z Z (aN Z Z (aE 3 Z Z Z (L.val Z (aa (v := (p.ra id).sv R) Z Z) (bN hRT Z) (L.pure Z (aP Z Z) (L.mv Z Z (L.nil (At.then (At.block ?_)))))))))
 refine aT (X := Nat) (fun k => [(45, .int .i64 k), (44, .int .i64 R.steps.length), (6, aL (p.fb id)), (0, aL e), (4, aL b4)]) (fun k => ap e p (T.endN id k) :: blk b4 51 #[bc id] :: fr) (fun k => k ≤ R.steps.length) (fun k => R.steps.length - k) 0 (Nat.zero_le _) ⟨rfl, rfl, rfl, rfl, rfl, trivial⟩ (Ent.refl _) ?_
 intro k hk
 obtain ⟨R1, hR2, hsame, hl2, hq2⟩ := FK.vG hRT k hk
 have hlen : R1.steps.length = R.steps.length := hsame.len
 refine At.seq (At.region (L.pure Z (bf Z Z Z) (L.nil (At.then (At.seq ?_)))))
 refine aC Z (fun c46 => ?_) (fun c46 => ?_)
 ·
  have hlt : k < R.steps.length := by omega
  obtain ⟨s, hs⟩ : ∃ s, R1.steps[k]? = some s := ⟨R1.steps[k]'(by omega), by simp⟩
  refine At.skip (At.then (At.seq (At.block (At.seq (At.region (L.mv Z Z (L.as Z Z (L.nil (At.then (At.seq (At.region (L.mv Z Z (aX Z Z Z Z (L.mv Z Z (L.pure Z (bg (cs := #[.int .u64 id, .int .i64 (k : Int), .int .i64 0]) Z Z Z Z Z) ?_)))))))))))))))
  refine L.op Z (ah Z Z Z hE (i7 (wh := 0) hR2 hs (by omega)) (Ent.refl _) ?_)
  rintro v m ⟨rfl, rfl⟩
  refine ai (L.as Z Z (L.nil (At.then (At.seq (At.region (L.mv Z Z (L.mv Z Z (L.op Z (rz Z Z Z Z Z Z Z Z fun b55 => ?_)))))))))
  refine L.op Z (ah Z Z Z hE (mW [5, 6] (some ⟨b55, 0, none⟩) 2 (FK.fV hR2 hs) (FK.cd hs)) ((aK (.tail (.head)) .head).trans (Ent.cons (el (xs := [5, 6]) (show 2 ≤ 9223372036854775807 by omega)))) ?_)
  rintro v m ⟨rfl, rfl⟩
  refine ai (L.pure Z (ck Z Z) (L.nil (At.then ?_)))
  refine eD Z (fun c57 => ?_) (fun c57 => ?_)
  ·
   have hne : ¬ (s.state = 5 ∨ s.state = 6) := by simpa using c57
   refine At.region (L.mv Z Z (aN Z Z (aE 0 Z Z Z ?_)))
   refine L.op Z (iG (S := (T.endN id k).leave id k) (R := R1.setS k { s with token := 0 }) (s := { s with token := 0 }) (j := 0) (s' := { s with token := 0, state := 7 }) (FK.fV hR2 hs) (FK.cd hs) Z Z Z Z (by omega) Z Z ?_)
   refine L.nil (al (At.then (At.region ?_)))
   refine L.pure Z (aO (r := ((k + 1 : Nat) : Int)) Z Z (by rw [cT (by omega)]; omega)) ?_
   refine L.mv Z Z (L.nil ?_)
   exact At.round (k + 1) hlt (by omega) ⟨rfl, rfl, rfl, rfl, rfl, trivial⟩ (by
    rw [FK.kb, FK.mX hR2 hs]
    unfold FK.ez
    rw [if_neg hne]
    exact Ent.refl _)
  ·
   have hne : s.state = 5 ∨ s.state = 6 := Decidable.byContradiction fun h => by simp only [not_or] at h; simp [h.1, h.2] at c57
   refine At.skip (al (At.then (At.region ?_)))
   refine L.pure Z (aO (r := ((k + 1 : Nat) : Int)) Z Z (by rw [cT (by omega)]; omega)) ?_
   refine L.mv Z Z (L.nil ?_)
   exact At.round (k + 1) hlt (by omega) ⟨rfl, rfl, rfl, rfl, rfl, trivial⟩ (by
    rw [FK.kb, FK.mX hR2 hs]
    unfold FK.ez
    rw [if_pos hne, FK.jW, FK.uj hR2 hs]
    exact Ent.refl _)
 ·
  have hke : k = R.steps.length := by omega
  refine At.exit (au (ar (an (At.then (At.region (L.mv Z Z (aN Z Z (aE 3 Z Z Z ?_))))))))
  refine L.pure Z (ea Z Z) ?_
  refine L.op Z (ah Z Z Z hE (zr b4 id (by rw [hq2, hqT]; exact hq)) (Ent.refl _) ?_)
  rintro v m ⟨rfl, rfl⟩
  refine ai (L.nil ?_)
  refine aZ [ap e p (S.finish id st)] rfl ⟨rfl, rfl⟩ ?_
  rw [FK.pC hR, hke, hT, hS1]
  exact Ent.refl _
end Go.Proofs.YtmeegfamopaljaaGreatDoor

namespace FK
theorem ph {S : En} {id : Nat} {R : Rn} (hR : S.getR id = some R) : S.settle id = if R.steps.all over then S.finish id (if R.steps.all fun s => s.state == 5 then 2 else 3) else S := by
 unfold En.settle
 rw [hR]
theorem Ai {S : En} {id : Nat} {R : Rn} (hR : S.getR id = some R) : ∃ R', (S.wake id).getR id = some R' ∧ SameR R R' ∧ (S.wake id).queue.length ≤ S.queue.length + R.fl.nodes.length := by
 have : S.wake id = S.wakeN id R.fl.nodes.length := by unfold En.wake; rw [hR]
 rw [this]
 exact ni hR _
theorem y6 (S : En) (id k : Nat) (g : Sp → Sp) : (S.onS id k g).now = S.now ∧ (S.onS id k g).seed = S.seed ∧ (S.onS id k g).tms = S.tms ∧ (S.onS id k g).sets = S.sets ∧ (S.onS id k g).tasks = S.tasks ∧ (S.onS id k g).ends = S.ends ∧ (S.onS id k g).lastRun = S.lastRun ∧ (S.onS id k g).lastToken = S.lastToken := by
 unfold En.onS
 split
 · split <;> exact ⟨rfl, rfl, rfl, rfl, rfl, rfl, rfl, rfl⟩
 · exact ⟨rfl, rfl, rfl, rfl, rfl, rfl, rfl, rfl⟩
theorem tF (S : En) (id k : Nat) : (En.wakeK id S k).now = S.now ∧ (En.wakeK id S k).seed = S.seed ∧ (En.wakeK id S k).tms = S.tms ∧ (En.wakeK id S k).sets = S.sets ∧ (En.wakeK id S k).tasks = S.tasks ∧ (En.wakeK id S k).ends = S.ends ∧ (En.wakeK id S k).lastRun = S.lastRun ∧ (En.wakeK id S k).lastToken = S.lastToken := by
 unfold En.wakeK
 split
 · split
   · exact y6 S id k _
   · exact ⟨rfl, rfl, rfl, rfl, rfl, rfl, rfl, rfl⟩
 · exact ⟨rfl, rfl, rfl, rfl, rfl, rfl, rfl, rfl⟩
theorem nN (S : En) (id : Nat) : ∀ n, (S.wakeN id n).now = S.now ∧ (S.wakeN id n).seed = S.seed ∧ (S.wakeN id n).tms = S.tms ∧ (S.wakeN id n).sets = S.sets ∧ (S.wakeN id n).tasks = S.tasks ∧ (S.wakeN id n).ends = S.ends ∧ (S.wakeN id n).lastRun = S.lastRun ∧ (S.wakeN id n).lastToken = S.lastToken
 | 0 => ⟨rfl, rfl, rfl, rfl, rfl, rfl, rfl, rfl⟩
 | n + 1 => by
  rw [e8]
  obtain ⟨a, b, c, d, e, f, g, h⟩ := tF (S.wakeN id n) id n
  obtain ⟨a', b', c', d', e', f', g', h'⟩ := nN S id n
  exact ⟨a.trans a', b.trans b', c.trans c', d.trans d', e.trans e', f.trans f', g.trans g', h.trans h'⟩
theorem oV (S : En) (id : Nat) : (S.wake id).now = S.now ∧ (S.wake id).seed = S.seed ∧ (S.wake id).tms = S.tms ∧ (S.wake id).sets = S.sets ∧ (S.wake id).tasks = S.tasks ∧ (S.wake id).ends = S.ends ∧ (S.wake id).lastRun = S.lastRun ∧ (S.wake id).lastToken = S.lastToken := by
 unfold En.wake
 split
 · exact nN S id _
 · exact ⟨rfl, rfl, rfl, rfl, rfl, rfl, rfl, rfl⟩
end FK
namespace Go.Proofs.YtmeegfamopaljaaGreatDoor
open Go Go.RowKit Go.SL
variable {G : Env → Prop}
set_option maxRecDepth 10000 in
set_option maxHeartbeats 1000000 in
theorem mi {e : Nat} {p : EA} {S : FK.En} {id : Nat} {R : FK.Rn} (hR : S.getR id = some R) (hn : R.steps.length ≤ 100) (hq : S.queue.length ≤ 400) (hl : S.tms.length ≤ 99999) (hends : S.ends < 9223372036854775807) : Does Tryz.prog G 233 [aL e, bc id].toArray [ap e p S] fun v m => v = .tuple #[] ∧ m = [ap e p (S.settle id)] := by
 refine Does.body Tryz.func233 Z Z fun E fr hE => ?_
 refine ai (At.seq (At.region (L.mv Z Z (aN Z Z (aE 1 Z Z Z ?_)))))
 refine L.val Z (aa (v := .map (some p.rm)) Z Z) (aQ fun _ _ _ => rfl) ?_
 refine L.mv Z Z (L.val Z (eB (m := dw S p) Z dD Z Z (eS hR)) cS (L.as Z Z (L.nil (At.then (At.seq (At.region (L.as Z Z (L.nil (At.then (At.seq (At.seq (At.region (L.mv Z Z (aN Z Z (aE 3 Z Z Z (L.val Z (aa (v := (p.ra id).sv R) Z Z) (bN hR Z) (L.pure Z (aP Z Z) (L.mv Z Z (L.nil ?_)))))))))))))))))))
 refine At.then (At.block ?_)
 refine aT (X := Nat) (fun k => [(18, .int .i64 k), (17, .int .i64 R.steps.length), (5, .int .i64 (if (R.steps.take k).all (fun s => s.state == 5) then 2 else 3)), (4, aL (p.fb id)), (0, aL e), (1, bc id)]) (fun _ => ap e p S :: fr) (fun k => k ≤ R.steps.length ∧ (R.steps.take k).all FK.over = true) (fun k => R.steps.length - k) 0 ⟨Nat.zero_le _, by simp⟩ ⟨rfl, rfl, rfl, rfl, rfl, rfl, trivial⟩ (Ent.refl _) ?_
 rintro k ⟨hk, hall⟩
 refine At.seq (At.region (L.pure Z (bf Z Z Z) (L.nil (At.then (At.seq ?_)))))
 refine aC Z (fun c19 => ?_) (fun c19 => ?_)
 ·
  have hlt : k < R.steps.length := by omega
  obtain ⟨s, hs⟩ : ∃ s, R.steps[k]? = some s := ⟨R.steps[k], by simp [hlt]⟩
  have htk : R.steps.take (k + 1) = R.steps.take k ++ [s] := by rw [List.take_add_one, hs]; rfl
  refine At.skip (At.then (At.seq (At.block (At.seq (At.region (L.mv Z Z (L.as Z Z (L.nil (At.then (At.seq (At.region (L.mv Z Z (aN Z Z (aE 3 Z Z Z (L.val Z (aa (v := (p.ra id).sv R) Z Z) (bN hR Z) (L.mv Z Z (L.pure Z (bD (z := 3) Z Z Z Z hlt) (aE 0 Z Z Z (L.val Z (aa (v := .int .i64 s.state) Z Z) (dW hR hs Z) ?_)))))))))))))))))))
  refine L.nil (At.then (At.block (At.seq (At.region (L.pure Z (aV Z Z Z) (L.as Z Z (L.nil (At.then ?_))))))))
  refine aC Z (fun c29 => ?_) (fun c29 => ?_)
  ·
   refine At.skip (al (al (At.then (At.region ?_))))
   refine L.pure Z (aO (r := ((k + 1 : Nat) : Int)) Z Z (by rw [cT (by omega)]; omega)) ?_
   refine L.mv Z Z (L.nil ?_)
   exact At.round (k + 1) ⟨hlt, by rw [htk, List.all_append, hall]; simp [FK.over, c29]⟩ (by omega) ⟨rfl, rfl, by rw [show (if (R.steps.take (k + 1)).all (fun s => s.state == 5) then (2 : Int) else 3) = (if (R.steps.take k).all (fun s => s.state == 5) then (2 : Int) else 3) by rw [htk, List.all_append]; simp [c29]]; rfl, rfl, rfl, rfl, trivial⟩ (Ent.refl _)
  ·
   refine At.seq (At.seq (At.region (L.pure Z (aV Z Z Z) (L.as Z Z (L.nil (At.then ?_))))))
   refine aC Z (fun c31 => ?_) (fun c31 => ?_)
   ·
    refine At.skip (At.then ?_)
    refine aC Z (fun c31 => ?_) (fun c31 => ?_)
    ·
     refine At.region (L.as Z Z (L.nil (al (al (At.then (At.region ?_))))))
     refine L.pure Z (aO (r := ((k + 1 : Nat) : Int)) Z Z (by rw [cT (by omega)]; omega)) ?_
     refine L.mv Z Z (L.nil ?_)
     exact At.round (k + 1) ⟨hlt, by rw [htk, List.all_append, hall]; simp [FK.over, c31]⟩ (by omega) ⟨rfl, rfl, by rw [show (if (R.steps.take (k + 1)).all (fun s => s.state == 5) then (2 : Int) else 3) = 3 by rw [htk, List.all_append]; simp [c29]]; rfl, rfl, rfl, rfl, trivial⟩ (Ent.refl _)
    ·
     refine At.ret (aB (aB (aI (bT (aB (aI ?_))))))
     exact absurd (by assumption) c31
   ·
    refine At.region (L.pure Z (aV Z Z Z) (L.as Z Z (L.nil (At.then ?_))))
    refine aC Z (fun c31 => ?_) (fun c31 => ?_)
    ·
     refine At.region (L.as Z Z (L.nil (al (al (At.then (At.region ?_))))))
     refine L.pure Z (aO (r := ((k + 1 : Nat) : Int)) Z Z (by rw [cT (by omega)]; omega)) ?_
     refine L.mv Z Z (L.nil ?_)
     exact At.round (k + 1) ⟨hlt, by rw [htk, List.all_append, hall]; simp [FK.over, c31]⟩ (by omega) ⟨rfl, rfl, by rw [show (if (R.steps.take (k + 1)).all (fun s => s.state == 5) then (2 : Int) else 3) = 3 by rw [htk, List.all_append]; simp [c29]]; rfl, rfl, rfl, rfl, trivial⟩ (Ent.refl _)
    ·
     refine At.ret (aB (aB (aI (bT (aB (aI ?_))))))
     refine aZ [ap e p (S.settle id)] rfl ⟨rfl, rfl⟩ ?_
     have : ¬ R.steps.all FK.over = true := fun h => by
      have := List.all_eq_true.1 h s (List.mem_of_getElem? hs)
      simp [FK.over] at this
      omega
     rw [FK.ph hR, if_neg this]
     exact Ent.refl _
 ·
  have hke : k = R.steps.length := by omega
  rw [hke, List.take_length] at hall
  have hst : R.steps.take k = R.steps := by rw [hke, List.take_length]
  rw [hst]
  refine At.exit (au (ar (an (At.then (At.region (L.mv Z Z (L.mv Z Z (L.mv Z Z (L.op Z (ah Z Z Z hE (jI hR hn hq hl hends) (Ent.refl _) ?_))))))))))
  rintro v m ⟨rfl, rfl⟩
  refine ai (L.nil ?_)
  exact aZ [ap e p (S.settle id)] rfl ⟨rfl, rfl⟩ (by rw [FK.ph hR, if_pos hall]; exact Ent.refl _)
theorem yi {S : FK.En} {t : Nat} {q : FK.Pl} (ht : (S.tasks.find? (·.1 == t)).map (·.2) = some q) : cw (cm S) t = some (fZ q) := by
 rw [iK]
 cases hf : S.tasks.find? (·.1 == t) with
 | none => rw [hf] at ht; cases ht
 | some x => rw [hf] at ht; injection ht with ht; simp only [Option.map_some, ht]
set_option maxRecDepth 10000 in
set_option maxHeartbeats 1000000 in
theorem oK {e : Nat} {p : EA} {S : FK.En} {t id k : Nat} {wh : Int} {R : FK.Rn} {s : FK.Sp} (ht : (S.tasks.find? (·.1 == t)).map (·.2) = some ⟨id, (k : Int), wh⟩) (hR : S.getR id = some R) (hs : R.steps[k]? = some s) (hlen : R.steps.length = R.fl.nodes.length) (hfit : vT R.fl) (hn : R.fl.nodes.length ≤ 100) (hq : S.queue.length ≤ 300) (hl : S.tms.length ≤ 99999) (hends : S.ends < 9223372036854775807) : Does Tryz.prog G 207 [aL e, bc t].toArray [ap e p S] fun v m => v = .tuple #[] ∧ m = [ap e p (S.complete t)] := by
 refine Does.body Tryz.func207 Z Z fun E fr hE => ?_
 refine ai (At.seq (At.region (L.mv Z Z (aN Z Z (aE 2 Z Z Z ?_)))))
 refine L.val Z (aa (v := .map (some p.tm)) Z Z) (aQ fun _ _ _ => rfl) ?_
 refine L.mv Z Z (L.val Z (eB (m := cm S) Z dD Z Z (yi ht)) j9 (L.op Z (aH (z := .agg #[.int .u64 0, .int .i64 0, .int .i64 0]) Z Z fun b4 => ?_)))
 refine L.op Z (aG (vs := fE ⟨id, (k : Int), wh⟩) Z (m := 3) Z Z Z Z (by simp [Value.oneCell']) (by show 0 + 3 ≤ 3; omega) ?_)
 refine At.ent (l' := blk b4 268 (fE ⟨id, (k : Int), wh⟩).toArray :: ap e p S :: fr) (Ent.refl _) ?_
 refine L.nil (At.then (At.seq (At.region (L.mv Z Z ?_))))
 refine L.val Z (am (vs := fE ⟨id, (k : Int), wh⟩) Z Z Z Z) (av Z) ?_
 refine L.op Z (ah Z Z Z hE (i7 (wh := wh) hR hs hl) (Ent.sel (.tail (.head))) ?_)
 rintro v m ⟨rfl, rfl⟩
 refine ai (aN Z Z (aE 0 Z Z Z ?_))
 refine L.op Z (iG (S := S.leave id k) (R := R.setS k { s with token := 0 }) (s := { s with token := 0 }) (j := 0) (s' := { s with token := 0, state := 5 }) (FK.fV hR hs) (FK.cd hs) Z Z Z Z (by omega) Z Z ?_)
 refine L.nil (At.then (At.seq ?_))
 obtain ⟨T, hT⟩ : ∃ T, T = (S.leave id k).setR id ((R.setS k { s with token := 0 }).setS k { s with token := 0, state := 5 }) := ⟨_, rfl⟩
 obtain ⟨R1, hR1d⟩ : ∃ R1, R1 = (R.setS k { s with token := 0 }).setS k { s with token := 0, state := 5 } := ⟨_, rfl⟩
 have hsm : FK.SameR R R1 := by rw [hR1d]; exact (FK.SameR.setS R k _).trans (FK.SameR.setS _ k _)
 have hRT : T.getR id = some R1 := by rw [hT, hR1d]; exact FK.cg (FK.fV hR hs)
 have hqT : T.queue = S.queue := by rw [hT]; exact FK.jH
 have hlT : T.tms.length ≤ 99999 := by rw [hT]; exact Nat.le_trans FK.jY hl
 have hends' : T.ends = S.ends := by rw [hT, FK.dm hR hs]; rfl
 have hcomp : S.complete t = (T.wake id).settle id := by
  unfold FK.En.complete
  rw [ht]
  show (((S.leave id (k : Int).toNat).onS id (k : Int).toNat fun s => { s with state := 5 }).wake id).settle id = _
  rw [Int.toNat_natCast, FK.m8 _ (FK.fV hR hs) (FK.cd hs), hT]
 rw [← hT]
 obtain ⟨R2, hR2, hsm2, hq2⟩ := FK.Ai hRT
 have hfl := hsm.fl
 have hln := hsm.len
 have hln2 := hsm2.len
 obtain ⟨ws1, ws2, ws3, ws4, ws5, ws6, ws7, ws8⟩ := FK.oV T id
 refine At.region (L.mv Z Z (aE 0 Z Z Z (aX Z Z Z Z ?_)))
 refine L.op Z (ah Z Z Z hE (oW hRT (by rw [hln, hfl]; exact hlen) (by rw [hfl]; exact hfit) (by rw [hfl]; exact hn) (by rw [hqT]; exact hq)) (Ent.refl _) ?_)
 rintro v m ⟨rfl, rfl⟩
 refine ai (L.nil (At.then (At.region (L.mv Z Z (aE 0 Z Z Z (aX Z Z Z Z ?_))))))
 refine L.op Z (ah Z Z Z hE (mi hR2 (by omega) (by rw [hfl, hqT] at hq2; omega) (by rw [ws3]; exact hlT) (by rw [ws6, hends']; exact hends)) (Ent.refl _) ?_)
 rintro v m ⟨rfl, rfl⟩
 refine ai (L.nil ?_)
 exact aZ [ap e p (S.complete t)] rfl ⟨rfl, rfl⟩ (by rw [hcomp]; exact Ent.cons Ent.drop)
end Go.Proofs.YtmeegfamopaljaaGreatDoor

namespace Go.Proofs.YtmeegfamopaljaaGreatDoor
open Go Go.RowKit Go.SL
variable {G : Env → Prop}
abbrev bo (run : Nat) (node tr : Int) (token : Nat) : List Value := [.int .u64 run, .int .i64 node, .int .i64 tr, .int .u64 token]
abbrev jn (run : Nat) (node tr : Int) (token : Nat) : Value := .agg (bo run node tr token).toArray
theorem wn {e : Nat} {p : EA} {S : FK.En} {x : FK.Pl} {q : List FK.Pl} (h : S.queue = x :: q) : Does Tryz.prog G 163 [ox e].toArray [ap e p S] fun v m => v = .tuple #[fZ x, .bool true] ∧ m = [ap e p { S with queue := q }] :=
 lV (R := fun v m => v = .tuple #[fZ x, .bool true] ∧ m = [cD e (hY S p) q]) (by rw [h]; exact pi e _) fun _ _ ⟨h1, h2⟩ => ⟨q, h2, h1, rfl⟩
section
variable {P : Program} {E : Env} {n : Nat} {D : List Deferred} {ts : List (Nat × Value)} {l r : List HP} {Q : Exit → Act → World → Prop} {ty : TypeId} {pos : String} {af : Array Edge} {g : Option (Nat × Bool)} {t : TypeId} {x y z : Operand} {e : Nat} {p : EA} {S : FK.En} {K : Act → World → Prop} [H : HasEng l e p S r]
theorem wM {tok : Nat} {q : FK.Pl} {t kt et : TypeId} {d : Option Tmp} (hd : d = none) (ht : P.underlying t = some (.map kt et)) (hk : KeyK P kt Nat bc) (hx : ev ts x = some (.map (some p.tm))) (hy : ev ts y = some (bc tok)) (hz : ev ts z = some (fZ q)) (hn : ∀ t ∈ S.tasks, t.1 ≠ tok)
 (h : At E n D ts (ap e p { S with tasks := S.tasks ++ [(tok, q)] } :: r) K) : At E n D ts l (fun ac w => (Oper.mk d (.mapUpdate t x y z) ty pos af g).wp P ac w K Q) := by
 refine At.ent (Ent.sel H.sel) (bn ?_)
 show At E n D ts (HP.pure (cJ S) :: cD e (hY S p) S.queue :: bF bc p.rm (dw S p) :: d9 p S.runs :: bF bc p.tm (cm S) :: cv p.w S.now S.sets S.tms :: r) _
 have hv : cw (cm S) tok = none := by
  rw [iK]
  cases hf : S.tasks.find? (·.1 == tok) with
  | none => rfl
  | some u => exact absurd (by simpa using List.find?_some hf) (hn u (List.mem_of_find?_eq_some hf))
 refine pW (b := p.tm) (a := tok) (v := fZ q) hd ht hk hx hy hz (.tail (.tail (.tail (.tail .head)))) hv ?_
 refine At.ent ?_ h
 have hm : cm S ++ [(tok, fZ q)] = cm { S with tasks := S.tasks ++ [(tok, q)] } := by simp [cm]
 rw [hm]
 refine Ent.trans ?_ (Ent.all (m := iC e p { S with tasks := S.tasks ++ [(tok, q)] }))
 exact (bX (.tail .head) (.tail .head) (.tail .head)).trans (Ent.cons (Ent.cons (Ent.cons (Ent.sel (.tail .head)))))
end
set_option maxRecDepth 10000 in
set_option maxHeartbeats 1000000 in
theorem t6 {e : Nat} {p : EA} {S : FK.En} {id k : Nat} {q : List FK.Pl} {R : FK.Rn} {s : FK.Sp} {nd : FK.Node} (h : S.queue = ⟨id, (k : Int), 0⟩ :: q) (hR : S.getR id = some R) (hs : R.steps[k]? = some s) (db : R.fl.nodes[k]? = some nd) (hnow : S.now ≤ 4611686018427387904) (hc0 : 0 ≤ nd.close) (hc : nd.close ≤ 4611686018427387904) (hb : nd.beat ≤ 4611686018427387904) (hsets : S.sets + 1 < 9223372036854775807) (hl : S.tms.length ≤ 99997) (htok : S.lastToken < 9223372036854775807) (htoks : ∀ t ∈ S.tasks, t.1 ≤ S.lastToken) (htr0 : 0 ≤ s.tries) (htr : s.tries < 9223372036854775807) :
 Does Tryz.prog G 101 [aL e].toArray [ap e p S] fun v m => v = .tuple #[jn id k (s.tries + 1) (S.lastToken + 1), .bool true] ∧ m = [ap e p (S.hand ⟨id, (k : Int), 0⟩ q R s nd)] := by
 have hk := (List.getElem?_eq_some_iff.1 hs).1
 have hkn := (List.getElem?_eq_some_iff.1 db).1
 have hlat : ∀ (T : FK.En) n, T.now ≤ 4611686018427387904 → T.now ≤ T.later n := fun T n h => by unfold FK.En.later; omega
 have hlat2 : ∀ (T : FK.En) n, T.later n ≤ 4611686018427387904 := fun T n => by unfold FK.En.later; omega
 refine Does.body Tryz.func101 Z Z fun E fr hE => ?_
 refine ai ?_
 refine eC (fun w hw => jB hR db hw) fun hA => ?_
 obtain ⟨A, c, hu, -⟩ := hA
 refine At.seq (At.region (L.op Z (aH (z := .agg #[.int .u64 0, .int .i64 0, .int .i64 0, .int .u64 0]) Z Z fun b2 => (L.as Z Z (L.nil (At.then (At.seq (At.region (L.mv Z Z (aN Z Z (aE 3 Z Z Z (L.op Z (ah Z Z Z hE (wn h) (Ent.sel (.tail (.head))) ?_)))))))))))))
 rintro v m ⟨rfl, rfl⟩
 refine ai (L.mv Z Z (L.ex Z Z Z (L.ex Z Z Z (L.op Z (aH (z := .agg #[.int .u64 0, .int .i64 0, .int .i64 0]) Z Z fun b4 => ?_)))))
 refine L.op Z (aG (vs := fE ⟨id, (k : Int), 0⟩) Z (m := 3) Z Z Z Z (by simp [Value.oneCell']) (by show 0 + 3 ≤ 3; omega) ?_)
 refine L.as Z Z (L.nil (At.then (At.seq (At.seq (At.region (L.mv Z Z (L.pure Z (ck Z Z) (L.nil (At.then (aj Z (At.skip (At.then (At.seq ?_)))))))))))))
 obtain ⟨S1, hS1⟩ : ∃ S1, S1 = { S with queue := q } := ⟨_, rfl⟩
 rw [← hS1]
 have hR1 : S1.getR id = some R := by rw [hS1]; exact hR
 refine At.ent (l' := blk b4 268 (fE ⟨id, (k : Int), 0⟩).toArray :: ap e p S1 :: blk b2 55 (bo 0 0 0 0).toArray :: fr) (Ent.refl _) ?_
 refine Dr.start Z (dP 0 Z Z (ag Z) (dP 1 Z Z (aq Z) (dP 2 Z Z (ab (off := 1) Z Z) ?_)))
 refine dL 3 Z Z (aa Z Z) (aQ fun _ _ _ => rfl) ?_
 refine dP 4 Z Z (ab (off := 0) Z Z) (dL 5 Z Z (aa Z Z) (ae Z) (dL 6 Z Z (eB (a := id) (v := aL (p.fb id)) Z dD Z Z (eS hR1)) cS (dP 7 Z Z (az Z) (dE (At.then (At.seq (Dr.start Z (dP 0 Z Z (ag Z) (dP 1 Z Z (aq Z) (dP 2 Z Z (ab (off := 3) Z Z) (dL 3 Z Z (aa (v := (p.ra id).sv R) Z Z) (bN hR1 Z) (dP 4 Z Z (ab (off := 1) Z Z) (dL 5 Z Z (aa Z Z) (ae Z) (dP 6 Z Z (bD (z := 3) Z Z Z Z hk) (dP 7 Z Z (ag Z) (dP 8 Z Z (aq Z) (dP 9 Z Z (ab (off := 0) Z Z) (dP 10 Z Z (ab (off := 1) Z Z) (dL 11 Z Z (aa (v := (p.ra id).nv R) Z Z) (bN hR1 Z) ?_)))))))))))))))))))
 refine dP 12 Z Z (ab (off := 1) Z Z) (dL 13 Z Z (aa Z Z) (ae Z) (dP 14 Z Z (bD (z := 7) Z Z Z Z hkn) (dL 15 Z Z (am (vs := aw nd (.slice A nd.after.length c)) Z Z Z Z) (de hR1 db hu) (dR 16 Z Z (aH (z := .agg #[.int .i64 0, .int .i64 0, .int .i64 0, .int .i64 0, .int .i64 0, .int .i64 0, .slice none 0 0]) Z Z fun b8 => ?_)))))
 refine Dr.kept [true, true, true, true, true] (by kernel_rfl) (Kept.cons (de hR1 db hu) (Kept.cons (ae Z) (Kept.cons (bN hR1 Z) (Kept.cons (ae Z) (Kept.cons (bN hR1 Z) Kept.nil))))) ?_
 refine dP 17 Z Z (az Z) ?_
 refine dR 18 Z Z (aG (vs := aw nd (.slice A nd.after.length c)) Z (m := 7) Z Z Z Z (by simp [aw, Value.oneCell']) (by show 0 + 7 ≤ 7; omega) ?_)
 refine Dr.kept [false, false, false, false, false] (by kernel_rfl) Kept.nil ?_
 refine dE (At.then (At.seq ?_))
 have hlt1 : S1.lastToken = S.lastToken := by rw [hS1]
 refine At.region (L.mv Z Z (aN Z Z (aE 8 Z Z Z ?_)))
 refine L.val Z (aa (v := .int .u64 S1.lastToken) Z Z) (aQ fun _ _ _ => rfl) ?_
 refine L.pure Z (aO (r := ((S1.lastToken + 1 : Nat) : Int)) Z Z (by rw [lE]; omega)) ?_
 refine aN Z Z (aE 8 Z Z Z ?_)
 refine L.op Z (mT (S := S1) (S' := { S1 with lastToken := S1.lastToken + 1 }) Z Z Z (by omega) Z (fun _ _ _ => rfl) Z Z Z Z Z Z ?_)
 refine L.nil (At.then (At.seq ?_))
 obtain ⟨S2, hS2⟩ : ∃ S2, S2 = { S1 with lastToken := S1.lastToken + 1 } := ⟨_, rfl⟩
 rw [← hS2]
 have hR2 : S2.getR id = some R := by rw [hS2]; exact hR1
 have hlt2 : S2.lastToken = S.lastToken + 1 := by rw [hS2, hlt1]
 refine Dr.start Z (dP 0 Z Z (ag Z) (dP 1 Z Z (ag Z) (dP 2 Z Z (aq Z) (dP 3 Z Z (ab (off := 1) Z Z) (dL 4 Z Z (aa (v := .int .i64 s.tries) Z Z) (dW hR2 hs Z) ?_)))))
 refine dP 5 Z Z (aO (r := s.tries + 1) Z Z (by rw [cT (by omega)])) ?_
 refine dP 6 Z Z (ag Z) (dP 7 Z Z (aq Z) (dP 8 Z Z (ab (off := 8) Z Z) ?_))
 refine dL 9 Z Z (aa (v := .int .u64 S2.lastToken) Z Z) (aQ fun _ _ _ => rfl) ?_
 refine dP 10 Z Z (bg (cs := #[.int .i64 3, .int .i64 (s.tries + 1), .int .u64 S2.lastToken]) Z Z Z Z Z) (dP 11 Z Z (aq Z) ?_)
 refine dR 12 Z Z (wK (s' := ⟨3, s.tries + 1, S2.lastToken⟩) hR2 hs Z Z Z Z ?_)
 refine Dr.kept [false, false] (by kernel_rfl) Kept.nil ?_
 refine dE (At.then (At.seq ?_))
 obtain ⟨R1, hRd⟩ : ∃ R1, R1 = R.setS k ⟨3, s.tries + 1, S2.lastToken⟩ := ⟨_, rfl⟩
 have hs1 : R1.steps[k]? = some ⟨3, s.tries + 1, S2.lastToken⟩ := by rw [hRd]; exact FK.cd hs
 rw [← hRd]
 obtain ⟨S3, hS3⟩ : ∃ S3, S3 = S2.setR id R1 := ⟨_, rfl⟩
 rw [← hS3]
 have hR3 : S3.getR id = some R1 := by rw [hS3]; exact FK.cg hR2
 have ht3 : S3.tasks = S.tasks := by rw [hS3, hS2, hS1]; rfl
 refine Dr.start Z (dP 0 Z Z (ag Z) (dP 1 Z Z (aq Z) (dP 2 Z Z (ab (off := 2) Z Z) ?_)))
 refine dL 3 Z Z (aa Z Z) (aQ fun _ _ _ => rfl) ?_
 refine dP 4 Z Z (ag Z) (dP 5 Z Z (aq Z) (dP 6 Z Z (ab (off := 2) Z Z) (dL 7 Z Z (aa (v := .int .u64 S2.lastToken) Z Z) (dW hR3 hs1 Z) ?_)))
 refine dL 8 Z Z (am (vs := fE ⟨id, (k : Int), 0⟩) Z Z Z Z) (av Z) ?_
 refine dR 9 Z Z (wM (tok := S2.lastToken) (q := ⟨id, (k : Int), 0⟩) Z Z dD Z Z Z (fun t ht => by rw [ht3] at ht; have := htoks t ht; omega) ?_)
 refine Dr.kept [false, false, false] (by kernel_rfl) Kept.nil ?_
 refine dE (At.then (At.seq ?_))
 obtain ⟨U, hU⟩ : ∃ U, U = { S3 with tasks := S3.tasks ++ [(S2.lastToken, (⟨id, (k : Int), 0⟩ : FK.Pl))] } := ⟨_, rfl⟩
 rw [← hU]
 have hRU : U.getR id = some R1 := by rw [hU]; exact hR3
 have hUn : U.now = S.now := by rw [hU, hS3, hS2, hS1]; rfl
 have hUs : U.sets = S.sets := by rw [hU, hS3, hS2, hS1]; rfl
 have hUt : U.tms = S.tms := by rw [hU, hS3, hS2, hS1]; rfl
 refine Dr.start Z (dP 0 Z Z (ag Z) (dP 1 Z Z (aq Z) (dP 2 Z Z (ab (off := 6) Z Z) ?_)))
 refine dL 3 Z Z (aa Z Z) (aQ fun _ _ _ => rfl) ?_
 refine dP 4 Z Z (ab (off := 0) Z Z) (dL 5 Z Z (aa Z Z) (ae Z) (dP 6 Z Z (ab (off := 1) Z Z) (dL 7 Z Z (aa Z Z) (ae Z) (dP 8 Z Z (bg (cs := #[.int .u64 id, .int .i64 (k : Int), .int .i64 1]) Z Z Z Z Z) (dP 9 Z Z (ag Z) (dP 10 Z Z (ab (off := 1) Z Z) (dL 11 Z Z (aa Z Z) (ae Z) ?_)))))))
 refine dR 12 Z Z (ah Z Z Z hE (jc (S := U) nd.close (by omega) hc0 hc) (Ent.refl _) ?_)
 rintro v m ⟨rfl, rfl⟩
 refine ai ?_
 refine Dr.kept [false, true, true, true] (by kernel_rfl) (Kept.cons (ae Z) (Kept.cons (ae Z) (Kept.cons (aQ fun _ _ _ => rfl) Kept.nil))) ?_
 refine dR 13 Z Z (ah Z Z Z hE (mQ ⟨id, (k : Int), 1⟩ (U.later nd.close.toNat) (hlat U _ (by omega)) (hlat2 U _) (by omega) (by rw [hUt]; omega)) (Ent.refl _) ?_)
 rintro v m ⟨rfl, rfl⟩
 refine ai ?_
 refine Dr.kept [true, true, false] (by kernel_rfl) (Kept.cons (ae Z) (Kept.cons (ae Z) Kept.nil)) ?_
 refine dE (At.then (At.seq ?_))
 obtain ⟨V, hV⟩ : ∃ V, V = U.setT ⟨id, (k : Int), 1⟩ (U.later nd.close.toNat) := ⟨_, rfl⟩
 rw [← hV]
 have hRV : V.getR id = some R1 := by rw [hV]; exact hRU
 have hVn : V.now = S.now := by rw [hV]; exact hUn
 have hVs : V.sets = S.sets + 1 := by rw [hV]; show U.sets + 1 = _; rw [hUs]
 have hVt : V.tms.length ≤ S.tms.length + 1 := by
  rw [hV]
  show (U.tms.filter (fun x : FK.KD => x.1 != ⟨id, (k : Int), 1⟩) ++ [((⟨id, (k : Int), 1⟩ : FK.Pl), U.later nd.close.toNat)]).length ≤ _
  have := List.length_filter_le (fun x : FK.KD => x.1 != ⟨id, (k : Int), 1⟩) U.tms
  rw [List.length_append, List.length_singleton, ← hUt]
  omega
 refine At.region (L.mv Z Z ?_)
 refine L.val Z (am (vs := fE ⟨id, (k : Int), 0⟩) Z Z Z Z) (av Z) ?_
 refine L.val Z (am (vs := aw nd (.slice A nd.after.length c)) Z Z Z Z) (av Z) ?_
 refine L.op Z (ah Z Z Z hE (pu (S := V) ⟨id, (k : Int), 0⟩ nd (.slice A nd.after.length c) (by omega) hb (by omega) (by omega)) (Ent.refl _) ?_)
 rintro v m ⟨rfl, rfl⟩
 refine ai (L.nil (At.then (At.seq ?_)))
 obtain ⟨X, hX⟩ : ∃ X, X = V.life ⟨id, (k : Int), 0⟩ nd := ⟨_, rfl⟩
 have hRX : X.getR id = some R1 := by rw [hX, life_R]; exact hRV
 rw [← hX]
 refine Dr.start Z (dP 0 Z Z (ab (off := 0) Z Z) (dL 1 Z Z (aa Z Z) (ae Z) (dP 2 Z Z (ab (off := 1) Z Z) (dL 3 Z Z (aa Z Z) (ae Z) (dP 4 Z Z (ag Z) (dP 5 Z Z (aq Z) (dP 6 Z Z (ab (off := 1) Z Z) (dL 7 Z Z (aa (v := .int .i64 (s.tries + 1)) Z Z) (dW hRX hs1 Z) (dP 8 Z Z (ag Z) (dP 9 Z Z (aq Z) (dP 10 Z Z (ab (off := 2) Z Z) (dL 11 Z Z (aa (v := .int .u64 S2.lastToken) Z Z) (dW hRX hs1 Z) (dP 12 Z Z (bg (cs := (bo id k (s.tries + 1) S2.lastToken).toArray) Z Z Z Z Z) ?_)))))))))))))
 refine dR 13 Z Z (aG (vs := bo id k (s.tries + 1) S2.lastToken) Z (m := 4) Z Z Z Z (by simp [Value.oneCell']) (by show 0 + 4 ≤ 4; omega) ?_)
 refine Dr.kept [false, false, false, false] (by kernel_rfl) Kept.nil ?_
 refine dP 14 Z Z (az Z) (dE (At.then (At.ret ?_)))
 have hfin : X = S.hand ⟨id, (k : Int), 0⟩ q R s nd := by rw [hX, hV, hU, hS3, hRd, hlt2, hS2, hS1]; rfl
 exact eW [ap e p X] rfl (bU (vs := bo id k (s.tries + 1) S2.lastToken) Z Z Z Z (av Z)) (Res.tmp Z) ⟨by rw [hlt2], by rw [hfin]⟩ (Ent.drop.trans (Ent.cons (Ent.drop.trans Ent.drop)))
end Go.Proofs.YtmeegfamopaljaaGreatDoor

namespace Go.Proofs.YtmeegfamopaljaaGreatDoor
open Go Go.RowKit Go.SL
variable {G : Env → Prop}
section
variable {E : Env} {l r : List HP} {p : EA} {L : List (Nat × FK.Rn)}
theorem iM {i : Nat} {x : Nat × FK.Rn} {v : Value} (s : Sel (d9 p L) l r) (hx : x ∈ L) (hv : (tf (p.ra x.1) x.2)[i]? = some v) : ∀ w, Holds E w l → bI ⟨p.fb x.1, i, none⟩ v w := fun w hw => by
 obtain ⟨F1, _, _, _, _, hp, _⟩ := (hw.sel s).star
 have h1 : Star w (eI p L) F1 := hp
 have h2 : (io (p.fb x.1) (p.ra x.1) x.2).sat w F1 := Star.mem h1 (List.mem_map.2 ⟨x, hx, rfl⟩)
 have h3 : Star w (lD (p.fb x.1) (p.ra x.1) x.2) F1 := h2
 have h4 : (tg (p.fb x.1) (p.ra x.1) x.2).sat w F1 := Star.mem h3 (by simp)
 have := h4.2
 simp only [bI, World.cell?, this]
 exact hv
theorem yZ {K : Type} {enc : K → Value} {it b : Nat} {m left : List (K × Value)} {cur : Option (K × Value)} (s : Sel (ct enc it b m left cur) l r) : ∀ w, Holds E w l → gr enc b m w := fun w hw => by
 obtain ⟨es, c, _, a1, a2, a3, a4, _⟩ := kJ s w hw
 exact ⟨es, c, a1, a2, a3, a4⟩
end
theorem yX {S : FK.En} {p : EA} {x : Nat × FK.Rn} (h : x ∈ S.runs) : cw (dw S p) x.1 = some (aL (p.fb x.1)) := by
 unfold dw
 rw [iZ S.runs (fun k _ => aL (p.fb k)) x.1]
 cases hf : S.runs.find? (·.1 == x.1) with
 | none => exact absurd (List.find?_eq_none.1 hf x h) (by simp)
 | some y => rfl
abbrev oldL (e : Nat) (p : EA) (S : FK.En) (it : Nat) (left : List (Nat × FK.Rn)) (cur : Option (Nat × Value)) : List HP := [HP.pure (cJ S), cD e (hY S p) S.queue, ct bc it p.rm (dw S p) (left.map fun r => (r.1, aL (p.fb r.1))) cur, d9 p S.runs, bF bc p.tm (cm S), cv p.w S.now S.sets S.tms]
set_option maxRecDepth 10000 in
set_option maxHeartbeats 1000000 in
theorem mj {e : Nat} {p : EA} {S : FK.En} : Does Tryz.prog G 154 [aL e].toArray [ap e p S] fun v m => (∃ o, FK.Bz S o ∧ v = .tuple #[bc ((o.map (·.1)).getD 0), .bool o.isSome]) ∧ m = [ap e p S] := by
 refine Does.body Tryz.func154 Z Z fun E fr hE => ?_
 refine ai (At.seq (At.region (L.as Z Z (L.as Z Z (L.nil (At.then (At.seq (At.seq (At.ent (Ent.unall (m := iC e p S)) ?_)))))))))
 show At E _ _ _ (HP.pure (cJ S) :: cD e (hY S p) S.queue :: bF bc p.rm (dw S p) :: d9 p S.runs :: bF bc p.tm (cm S) :: cv p.w S.now S.sets S.tms :: fr) _
 refine At.region (L.mv Z Z (aN Z Z (aE 1 Z Z Z ?_)))
 refine L.val Z (aa (v := .map (some p.rm)) Z Z) (yF fun _ _ _ => rfl) ?_
 refine L.op Z (kK (b := p.rm) Z Z Z (.tail (.tail .head)) fun it => (L.nil (At.then (At.block ?_))))
 refine aT (X := List (Nat × FK.Rn) × Option (Nat × Value) × Option (Nat × FK.Rn)) (fun x => [(10, .pointer (some ⟨it, 0, none⟩)), (2, bc ((x.2.2.map (·.1)).getD 0)), (3, .bool x.2.2.isSome), (0, aL e)]) (fun x => oldL e p S it x.1 x.2.1 ++ fr) (fun x => (∀ r ∈ x.1, r ∈ S.runs) ∧ (∀ r ∈ S.runs, r ∈ x.1 ∨ (0 < r.2.ended → ∃ m, x.2.2 = some m ∧ m.2.ended ≤ r.2.ended)) ∧ ∀ m, x.2.2 = some m → m ∈ S.runs ∧ 0 < m.2.ended) (fun x => x.1.length) (S.runs, none, none) ⟨fun _ h => h, fun _ h => .inl h, fun _ h => by cases h⟩ ⟨rfl, rfl, rfl, rfl, trivial⟩ (bX (.tail .head) (.tail .head) .head) ?_
 rintro ⟨left, cur, o⟩ ⟨hin, hsee, ho⟩
 replace hin : ∀ r ∈ left, r ∈ S.runs := hin
 replace hsee : ∀ r ∈ S.runs, r ∈ left ∨ (0 < r.2.ended → ∃ m, o = some m ∧ m.2.ended ≤ r.2.ended) := hsee
 replace ho : ∀ m, o = some m → m ∈ S.runs ∧ 0 < m.2.ended := ho
 refine At.ent (l' := HP.pure (cJ S) :: cD e (hY S p) S.queue :: ct bc it p.rm (dw S p) (left.map fun r => (r.1, aL (p.fb r.1))) cur :: d9 p S.runs :: bF bc p.tm (cm S) :: cv p.w S.now S.sets S.tms :: fr) (Ent.refl _) ?_
 refine At.seq ?_
 by_cases HL : left = []
 ·
  subst HL
  refine At.region ?_
  refine L.op Z (jr Z Z (.tail (.tail .head)) (fun _ => ?_) (fun j q hj => by simp at hj))
  refine L.ex Z Z Z (L.nil (At.then (At.seq (aj Z (At.exit (au (ar (an (At.then (At.seq (At.region (L.mv Z Z (L.mv Z Z (L.as Z Z (L.as Z Z (L.nil (At.then (At.ret ?_))))))))))))))))))
  exact dd [ap e p S] rfl rfl rfl ⟨⟨o, ⟨ho, fun r hr h => (by rcases hsee r hr with h' | h'; cases h'; exact h' h)⟩, rfl⟩, rfl⟩ ((Ent.ranged.trans (aK (.tail .head) (.tail .head))).trans (Ent.all (m := iC e p S)))
 ·
  refine At.region ?_
  refine L.op Z (jr Z Z (.tail (.tail .head)) (fun h => absurd (List.map_eq_nil_iff.1 h) HL) (fun j q hj => ?_))
  obtain ⟨x, hx, rfl⟩ : ∃ x, left[j]? = some x ∧ (x.1, aL (p.fb x.1)) = q := by
   rw [List.getElem?_map] at hj
   cases hl : left[j]? with
   | none => rw [hl] at hj; cases hj
   | some x => rw [hl] at hj; injection hj with hj; exact ⟨x, rfl, hj⟩
  have hxS := hin x (List.mem_of_getElem? hx)
  have hjl := (List.getElem?_eq_some_iff.1 hx).1
  rw [← ff]
  refine L.ex Z Z Z (L.nil (At.then (At.seq (aR Z (At.skip (At.then (At.block (At.seq (At.region (L.val Z (nE (p := (x.1, aL (p.fb x.1))) Z) (kJ .head) (L.ex Z Z Z (L.ex Z Z Z (L.as Z Z (L.as Z Z (L.nil (At.then (At.seq ?_)))))))))))))))))
  by_cases HA : 0 < x.2.ended
  ·
   by_cases HB : o = none
   ·
    subst HB
    refine Dr.start Z (dP 0 Z Z (ag Z) (dP 1 Z Z (aq Z) (dP 2 Z Z (ab (off := 4) Z Z) (dL 3 Z Z (aa (v := .int .u64 x.2.ended) Z Z) (iM (.tail (.tail (.tail .head))) hxS Z) ?_))))
    refine dP 4 Z Z (dZ Z Z (decide_eq_true (by omega))) ?_
    refine dP 5 Z Z (ag Z) (dG 6 Z Z Z Z (ag Z) (dG 7 Z Z Z Z (ck Z Z) (dG 8 Z Z Z Z (ag Z) (dS 9 Z Z Z Z Z Z Z (dS 10 Z Z Z Z Z Z Z (dS 11 Z Z Z Z Z Z Z (dS 12 Z Z Z Z Z Z Z (dS 13 Z Z Z Z Z Z Z (dS 14 Z Z Z Z Z Z Z (dS 15 Z Z Z Z Z Z Z (dS 16 Z Z Z Z Z Z Z (dS 17 Z Z Z Z Z Z Z (dS 18 Z Z Z Z Z Z Z (dS 19 Z Z Z Z Z Z Z (dS 20 Z Z Z Z Z Z Z (dS 21 Z Z Z Z Z Z Z (dS 22 Z Z Z Z Z Z Z (dG 23 Z Z Z Z (aM Z Z Z) (dP 24 Z Z (aM Z Z Z) ?_)))))))))))))))))))
    refine dE (At.then (aR Z (At.region (L.mv Z Z (L.as Z Z (L.as Z Z (L.nil (al ?_))))))))
    exact At.round (left.eraseIdx j, some (x.1, aL (p.fb x.1)), some x) ⟨fun r hr => hin r ((List.eraseIdx_sublist _ _).subset hr), fun r hr => (by
     rcases hsee r hr with h | h
     · rcases FK.iP hx h with rfl | h
       · exact .inr fun _ => ⟨r, rfl, Nat.le_refl _⟩
       · exact .inl h
     · exact .inr fun h' => (by obtain ⟨m, hm, _⟩ := h h'; cases hm)), fun m hm => (by injection hm with hm; subst hm; exact ⟨hxS, HA⟩)⟩ (by show (left.eraseIdx j).length < left.length; rw [List.length_eraseIdx, if_pos hjl]; omega) ⟨rfl, rfl, rfl, rfl, trivial⟩ (aK (.tail .head) (.tail .head))
   ·
    obtain ⟨m, rfl⟩ := Option.ne_none_iff_exists'.1 HB
    obtain ⟨hmS, hm0⟩ := ho m rfl
    refine Dr.start Z (dP 0 Z Z (ag Z) (dP 1 Z Z (aq Z) (dP 2 Z Z (ab (off := 4) Z Z) (dL 3 Z Z (aa (v := .int .u64 x.2.ended) Z Z) (iM (.tail (.tail (.tail .head))) hxS Z) ?_))))
    refine dP 4 Z Z (dZ Z Z (decide_eq_true (by omega))) ?_
    refine dP 5 Z Z (ag Z) (dG 6 Z Z Z Z (ag Z) (dG 7 Z Z Z Z (ck Z Z) (dG 8 Z Z Z Z (ag Z) (dG 9 Z Z Z Z (ag Z) (dG 10 Z Z Z Z (aq Z) (dG 11 Z Z Z Z (ab (off := 4) Z Z) (dH 12 Z Z Z Z (aa (v := .int .u64 x.2.ended) Z Z) (iM (.tail (.tail (.tail .head))) hxS Z) (dG 13 Z Z Z Z (ag Z) (dG 14 Z Z Z Z (aq Z) (dG 15 Z Z Z Z (ab (off := 1) Z Z) ?_))))))))))
    refine dH 16 Z Z Z Z (aa (v := .map (some p.rm)) Z Z) (yF fun _ _ _ => rfl) ?_
    refine dG 17 Z Z Z Z (ag Z) (dH 18 Z Z Z Z (eB (a := m.1) (v := aL (p.fb m.1)) Z dD Z Z (yX hmS)) (yZ .head) (dG 19 Z Z Z Z (aq Z) (dG 20 Z Z Z Z (ab (off := 4) Z Z) (dH 21 Z Z Z Z (aa (v := .int .u64 m.2.ended) Z Z) (iM (.tail (.tail (.tail .head))) hmS Z) (dG 22 Z Z Z Z (bf Z Z Z) (dG 23 Z Z Z Z (aM Z Z Z) (dP 24 Z Z (aM Z Z Z) (dE (At.then ?_)))))))))
    refine aC Z (fun c40 => ?_) (fun c40 => ?_)
    ·
     refine At.region (L.mv Z Z (L.as Z Z (L.as Z Z (L.nil (al ?_)))))
     have c40' : x.2.ended < m.2.ended := by omega
     exact At.round (left.eraseIdx j, some (x.1, aL (p.fb x.1)), some x) ⟨fun r hr => hin r ((List.eraseIdx_sublist _ _).subset hr), fun r hr => (by
      rcases hsee r hr with h | h
      · rcases FK.iP hx h with rfl | h
        · exact .inr fun _ => ⟨r, rfl, Nat.le_refl _⟩
        · exact .inl h
      · exact .inr fun h' => (by obtain ⟨m', hm, hle⟩ := h h'; injection hm with hm; subst hm; exact ⟨x, rfl, by omega⟩)), fun m hm => (by injection hm with hm; subst hm; exact ⟨hxS, HA⟩)⟩ (by show (left.eraseIdx j).length < left.length; rw [List.length_eraseIdx, if_pos hjl]; omega) ⟨rfl, rfl, rfl, rfl, trivial⟩ (aK (.tail .head) (.tail .head))
    ·
     refine At.skip (al ?_)
     have c40' : ¬ x.2.ended < m.2.ended := by omega
     exact At.round (left.eraseIdx j, some (x.1, aL (p.fb x.1)), some m) ⟨fun r hr => hin r ((List.eraseIdx_sublist _ _).subset hr), fun r hr => (by
      rcases hsee r hr with h | h
      · rcases FK.iP hx h with rfl | h
        · exact .inr fun _ => ⟨m, rfl, by omega⟩
        · exact .inl h
      · exact .inr h), fun m' hm => ho m' hm⟩ (by show (left.eraseIdx j).length < left.length; rw [List.length_eraseIdx, if_pos hjl]; omega) ⟨rfl, rfl, rfl, rfl, trivial⟩ (aK (.tail .head) (.tail .head))
  ·
   refine Dr.start Z (dP 0 Z Z (ag Z) (dP 1 Z Z (aq Z) (dP 2 Z Z (ab (off := 4) Z Z) (dL 3 Z Z (aa (v := .int .u64 x.2.ended) Z Z) (iM (.tail (.tail (.tail .head))) hxS Z) ?_))))
   refine dP 4 Z Z (dZ Z Z (decide_eq_false (by omega))) ?_
   refine dP 5 Z Z (ag Z) (dS 6 Z Z Z Z Z Z Z (dS 7 Z Z Z Z Z Z Z (dS 8 Z Z Z Z Z Z Z (dS 9 Z Z Z Z Z Z Z (dS 10 Z Z Z Z Z Z Z (dS 11 Z Z Z Z Z Z Z (dS 12 Z Z Z Z Z Z Z (dS 13 Z Z Z Z Z Z Z (dS 14 Z Z Z Z Z Z Z (dS 15 Z Z Z Z Z Z Z (dS 16 Z Z Z Z Z Z Z (dS 17 Z Z Z Z Z Z Z (dS 18 Z Z Z Z Z Z Z (dS 19 Z Z Z Z Z Z Z (dS 20 Z Z Z Z Z Z Z (dS 21 Z Z Z Z Z Z Z (dS 22 Z Z Z Z Z Z Z (dS 23 Z Z Z Z Z Z Z (dP 24 Z Z (aM Z Z Z) ?_)))))))))))))))))))
   refine dE (At.then (aj Z (At.skip (al ?_))))
   exact At.round (left.eraseIdx j, some (x.1, aL (p.fb x.1)), o) ⟨fun r hr => hin r ((List.eraseIdx_sublist _ _).subset hr), fun r hr => (by
    rcases hsee r hr with h | h
    · rcases FK.iP hx h with rfl | h
      · exact .inr fun h => absurd h HA
      · exact .inl h
    · exact .inr h), ho⟩ (by show (left.eraseIdx j).length < left.length; rw [List.length_eraseIdx, if_pos hjl]; omega) ⟨rfl, rfl, rfl, rfl, trivial⟩ (aK (.tail .head) (.tail .head))
set_option maxRecDepth 10000 in
theorem wq {e : Nat} {p : EA} {S : FK.En} : Does Tryz.prog G 94 [aL e].toArray [ap e p S] fun v m => v = .bool (S.runs.any (fun r => decide (0 < r.2.ended)) || decide (S.runs.length < 6)) ∧ m = [ap e p S] := by
 refine Does.body Tryz.func94 Z Z fun E fr hE => ?_
 refine ai (At.seq (At.region (L.as Z Z (L.nil (At.then (At.seq (At.region (L.mv Z Z (L.op Z (ah Z Z Z hE mj (Ent.refl _) ?_))))))))))
 rintro v m ⟨⟨o, ho, rfl⟩, rfl⟩
 refine ai (L.mv Z Z (L.ex Z Z Z (L.ex Z Z Z (L.as Z Z (L.as Z Z (L.nil (At.then (At.seq ?_))))))))
 by_cases HO : o = none
 ·
  subst HO
  have hany : (S.runs.any fun r => decide (0 < r.2.ended)) = false := by
   rw [List.any_eq_false]
   intro r hr
   simp only [decide_eq_true_eq]
   intro h
   obtain ⟨m, hm, _⟩ := ho.2 r hr h
   cases hm
  refine At.region (L.mv Z Z (L.mv Z Z (lT Z Z Z (ag Z) (lT Z Z Z (aq Z) (lT Z Z Z (ab (off := 1) Z Z) ?_)))))
  refine lA Z Z Z (aa (v := .map (some p.rm)) Z Z) (aQ fun _ _ _ => rfl) ?_
  refine L.on Z Z Z (qd Z (vD (m := dw S p) Z Z) cS ?_)
  refine lT Z Z Z (bf (r := decide (S.runs.length < 6)) Z Z (by rw [List.length_map]; exact decide_eq_decide.2 (by omega))) ?_
  refine L.pure Z (aM Z Z Z) (L.as Z Z (L.nil (At.then (At.ret ?_))))
  exact aA [ap e p S] rfl Z ⟨by rw [hany]; rfl, rfl⟩ (Ent.refl _)
 ·
  obtain ⟨x, rfl⟩ := Option.ne_none_iff_exists'.1 HO
  obtain ⟨hx, hx0⟩ := ho.1 x rfl
  have hany : (S.runs.any fun r => decide (0 < r.2.ended)) = true := by
   rw [List.any_eq_true]
   exact ⟨x, hx, by simpa using hx0⟩
  refine At.region (L.mv Z Z (L.mv Z Z (L.off Z Z Z Z Z Z (L.off Z Z Z Z Z Z (L.off Z Z Z Z Z Z (L.off Z Z Z Z Z Z (L.off Z Z Z Z Z Z (L.off Z Z Z Z Z Z (L.pure Z (aM Z Z Z) (L.as Z Z (L.nil (At.then (At.ret ?_)))))))))))))
  exact aA [ap e p S] rfl Z ⟨by rw [hany]; rfl, rfl⟩ (Ent.refl _)
end Go.Proofs.YtmeegfamopaljaaGreatDoor
