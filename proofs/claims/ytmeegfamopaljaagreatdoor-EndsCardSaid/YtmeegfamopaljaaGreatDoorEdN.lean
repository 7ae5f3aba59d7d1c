/- The engine's ring: Pop, Push. -/
import Derived.Test.YtmeegfamopaljaaGreatDoorEdM
import Derived.Test.YtmeegfamopaljaaGreatDoorEdK
import Derived.Test.YtmeegfamopaljaaGreatDoorEdI
import Derived.ScopeJumps
import Derived.WalkMore
import Derived.Laws.MakeOwn
import Derived.Laws.BitsAllLaws
import Derived.LoopTactic
import Derived.Deep.OwnRows
import Derived.Deep.LoopGhost
import Derived.Test.YtmeegfamopaljaaGreatDoorEdJ
import Derived.Test.YtmeegfamopaljaaGreatDoorEdH
namespace Go.SL
open Go Go.RowKit
section
variable {P : Program} {E : Env} {ts : List (Nat × Value)} {l : List HP}
theorem zE {t e : TypeId} {x o : Operand} {b m c a z : Nat} {k : IntKind} (ht : P.underlying t = some (.slice e)) (hz : bZ P e z) (hx : ev ts x = some (.slice (some ⟨b, 0, none⟩) m c)) (ho : ev ts o = some (.int k (a : Int))) (h1 : a ≤ m) (h2 : m ≤ c) (hne : c ≠ a) :
 Ev P ts (.slice t x (some o) none none) (.slice (some ⟨b, a * z, none⟩) (m - a) (c - a)) Any := by
 have := cM (P := P) (lo := some o) (hi := none) (a := a) (b := m) ht hz hx ⟨k, ho⟩ rfl h1 h2
 rw [if_neg hne] at this
 simpa [add_plain] using this
theorem zD {t e : TypeId} {x o : Operand} {A : Option Addr} {m c a z : Nat} {k : IntKind} (ht : P.underlying t = some (.slice e)) (hz : bZ P e z) (hx : ev ts x = some (.slice A m c)) (ho : ev ts o = some (.int k (a : Int))) (h1 : a ≤ m) (h2 : m ≤ c) :
 Ev P ts (.slice t x (some o) none none) (.slice (if c = a then A else A.map (·.add (a * z))) (m - a) (c - a)) Any :=
 cM (P := P) (lo := some o) (hi := none) (a := a) (b := m) ht hz hx ⟨k, ho⟩ rfl h1 h2
theorem zF {t e : TypeId} {x o : Operand} {A : Option Addr} {m c a z : Nat} {k : IntKind} (ht : P.underlying t = some (.slice e)) (hz : bZ P e z) (hA : A = none ∨ ∃ g, A = some ⟨g, 0, none⟩) (hx : ev ts x = some (.slice A m c)) (ho : ev ts o = some (.int k (a : Int))) (h2 : a ≤ c) :
 Ev P ts (.slice t x none (some o) none) (.slice A a c) Any := by
 have := cM (P := P) (lo := none) (hi := some o) (a := 0) (b := a) ht hz hx rfl ⟨k, ho⟩ (Nat.zero_le _) h2
 rcases hA with rfl | ⟨g, rfl⟩
 · simpa using this
 · simpa [add_plain] using this
theorem AW {t e : TypeId} {x o u : Operand} {g m c a b z : Nat} {k k' : IntKind} (ht : P.underlying t = some (.slice e)) (hz : bZ P e z) (hx : ev ts x = some (.slice (some ⟨g, 0, none⟩) m c)) (ho : ev ts o = some (.int k (a : Int))) (hu : ev ts u = some (.int k' (b : Int))) (h1 : a ≤ b) (h2 : b ≤ c) (hne : c ≠ a) :
 Ev P ts (.slice t x (some o) (some u) none) (.slice (some ⟨g, a * z, none⟩) (b - a) (c - a)) Any := by
 have := cM (P := P) (lo := some o) (hi := some u) (a := a) (b := b) ht hz hx ⟨k, ho⟩ ⟨k', hu⟩ h1 h2
 rw [if_neg hne] at this
 simpa [add_plain] using this
theorem Ao {e : TypeId} {z : Nat} {A : Option Addr} {N c f : Nat} {xs : List Value} {r : List HP} (s : Sel (row e z (.slice A N c) N xs) l r) (hA : A = none ∧ N = 0 ∨ ∃ g, A = some ⟨g, 0, none⟩) (hN : N ≤ c) (hx : xs.length = N * z) :
 ((if c = f then A else A.map (·.add (f * z))) = none ∧ N - f = 0) ∨ ∃ gs so, (if c = f then A else A.map (·.add (f * z))) = some ⟨gs, so, none⟩ ∧ ∀ w, Holds E w l → gK gs so (xs.drop (f * z)) w := by
 rcases hA with ⟨rfl, rfl⟩ | ⟨g, rfl⟩
 · left
   refine ⟨?_, Nat.zero_sub _⟩
   split <;> rfl
 · right
   by_cases h : c = f
   · rw [if_pos h]
     refine ⟨g, 0, rfl, fun w _ j u hj => ?_⟩
     rw [List.drop_eq_nil_of_le (by rw [hx]; exact Nat.mul_le_mul_right _ (by omega))] at hj
     simp at hj
   · rw [if_neg h]
     refine ⟨g, f * z, by simp [add_plain], uP s fun j u hj => ?_⟩
     rw [List.getElem?_drop] at hj
     exact hj
theorem AQ {e : TypeId} {z : Nat} {A : Option Addr} {N c f : Nat} {xs : List Value} {r : List HP} (s : Sel (row e z (.slice A N c) N xs) l r) (hA : A = none ∧ N = 0 ∨ ∃ g, A = some ⟨g, 0, none⟩) (hf : f ≤ N) :
 (A = none ∧ f = 0) ∨ ∃ gs so, A = some ⟨gs, so, none⟩ ∧ ∀ w, Holds E w l → gK gs so (xs.take (f * z)) w := by
 rcases hA with ⟨rfl, rfl⟩ | ⟨g, rfl⟩
 · exact .inl ⟨rfl, by omega⟩
 · refine .inr ⟨g, 0, rfl, uP s fun j u hj => ?_⟩
   rw [List.getElem?_take] at hj
   rw [Nat.zero_add]
   split at hj
   · exact hj
   · cases hj
end
end Go.SL
namespace Go.Proofs.YtmeegfamopaljaaGreatDoor
open Go Go.RowKit Go.SL
open FK (dy ch bK)
variable {G : Env → Prop}
set_option maxRecDepth 10000 in
theorem pi {q : List FK.Pl} {p : FK.Pl} (e : Nat) (C : EC) : Does Tryz.prog G 163 [ox e].toArray [cD e C (p :: q)] fun v m => v = .tuple #[fZ p, .bool true] ∧ m = [cD e C q] := by
 refine Does.body Tryz.func163 Z Z fun E fr hE => ?_
 refine ai (jL .head fun A N c f rg hR hA1 hA2 hc1 hc2 => ?_)
 obtain ⟨hN, hf⟩ := hR.pos (by simp)
 have hlen := hR.len
 have hbig := hR.big
 simp only [List.length_cons] at hlen ⊢
 obtain ⟨g, rfl⟩ := hA1 hN
 obtain ⟨hit, hR'⟩ := hR.pop (z := ⟨0, 0, 0⟩)
 refine At.seq (At.region (L.op Z (aH (z := .agg #[.int .u64 0, .int .i64 0, .int .i64 0]) Z Z fun b2 => (L.as Z Z (L.nil (At.then (At.seq (At.seq (At.region (L.mv Z Z (aN Z Z (aE 2 Z Z Z (aX Z Z Z Z ?_)))))))))))))
 refine L.pure Z (aV (r := false) Z Z (by rw [decide_eq_false_iff_not]; omega)) ?_
 refine L.nil (At.then (aj Z (At.skip (At.then (At.seq (Dr.start Z (dP 0 Z Z (ag Z) (dP 1 Z Z (aq Z) (dP 2 Z Z (ab (off := 0) Z Z) (dL 3 Z Z (aa Z Z) (ae Z) (dP 4 Z Z (ag Z) (dP 5 Z Z (aq Z) (dP 6 Z Z (ab (off := 1) Z Z) (dL 7 Z Z (aa Z Z) (ae Z) (dP 8 Z Z (bD (z := 3) Z Z Z Z hf) ?_)))))))))))))))
 refine dL 9 Z Z (am (vs := fE p) Z Z Z Z) (uP (.tail (.tail (.head))) (fun j u hj => qZ hf j u (by rw [hit]; exact hj))) ?_
 refine dR 10 Z Z (aG Z (m := 3) Z Z Z Z (by simp [Value.oneCell']) (by first | decide | (simp [Value.cells]; done) | (simp [Value.cells]; omega)) ?_)
 refine Dr.kept [false, false, false] (by kernel_rfl) Kept.nil ?_
 refine dE (At.then (At.seq (Dr.start Z (dP 0 Z Z (ag Z) (dP 1 Z Z (aq Z) (dP 2 Z Z (ab (off := 0) Z Z) (dL 3 Z Z (aa Z Z) (ae Z) (dP 4 Z Z (ag Z) (dP 5 Z Z (aq Z) (dP 6 Z Z (ab (off := 1) Z Z) (dL 7 Z Z (aa Z Z) (ae Z) (dP 8 Z Z (ag Z) (dP 9 Z Z (aq Z) (dP 10 Z Z (ab (off := 1) Z Z) (dL 11 Z Z (aa Z Z) (ae Z) ?_)))))))))))))))
 refine dP 12 Z Z (aO (r := ((f + 1 : Nat) : Int)) Z Z (by rw [cT (by omega)]; omega)) ?_
 refine dP 13 Z Z (AW (a := f) (b := f + 1) (z := 3) Z Z Z Z Z (by omega) (by omega) (by omega)) ?_
 refine dR 14 Z Z (ua (m := f + 1 - f) (z := fZ ⟨0, 0, 0⟩) (zs := fE ⟨0, 0, 0⟩) Z Z Z (by rw [show f + 1 - f = 1 by omega]; kernel_rfl) (by omega) Z (.tail (.tail (.head))) (by simp [Value.oneCell']) (by simp; omega) ?_)
 rw [show f * 3 = 0 + f * 3 by omega, yn hf]
 refine Dr.kept [true, true, true] (by kernel_rfl) (Kept.cons (ae Z) (Kept.cons (ae Z) (Kept.cons (ae Z) Kept.nil))) ?_
 refine dE (At.then (At.seq (Dr.start Z (dP 0 Z Z (ag Z) (dP 1 Z Z (ag Z) (dP 2 Z Z (aq Z) (dP 3 Z Z (ab (off := 1) Z Z) (dL 4 Z Z (aa Z Z) (ae Z) ?_))))))))
 refine dP 5 Z Z (aO (r := ((f + 1 : Nat) : Int)) Z Z (by rw [cT (by omega)]; omega)) ?_
 refine dP 6 Z Z (ag Z) (dP 7 Z Z (aq Z) (dP 8 Z Z (ab (off := 0) Z Z) (dL 9 Z Z (aa Z Z) (ae Z) (dP 10 Z Z (aP Z Z) ?_))))
 refine dP 11 Z Z (gO (r := (((f + 1) % N : Nat) : Int)) Z Z (by omega) (by rw [iW (by omega) hN])) ?_
 refine dP 12 Z Z (aq Z) (dP 13 Z Z (ab (off := 1) Z Z) ?_)
 refine dR 14 Z Z (bC Z Z Z Z Z (by first | decide | simp | (simp; omega)) ?_)
 refine Dr.kept [false, false] (by kernel_rfl) Kept.nil ?_
 refine dE (At.then (At.seq (At.region (L.mv Z Z (aN Z Z (aE 2 Z Z Z (aX Z Z Z Z ?_)))))))
 refine L.pure Z (eQ (r := (q.length : Int)) Z Z (by rw [cT (by omega)]; omega)) ?_
 refine aN Z Z (aE 2 Z Z Z ?_)
 refine L.st Z Z Z Z (by first | decide | simp | (simp; omega)) ?_
 refine L.nil (At.then (At.seq (At.region (L.val Z (am (vs := fE p) Z Z Z Z) (av Z) ?_))))
 refine L.op Z (aG Z (m := 3) Z Z Z Z (by simp [Value.oneCell']) (by rw [SL.eo]; simp [Value.cells]) ?_)
 refine L.as Z Z (L.nil (At.then (At.ret ?_)))
 exact eW [_] rfl (bU (vs := fE p) Z Z Z Z (av Z)) (Res.tmp Z) ⟨rfl, rfl⟩ (Ent.drop.trans (eU hR'))
end Go.Proofs.YtmeegfamopaljaaGreatDoor

namespace Go.Proofs.YtmeegfamopaljaaGreatDoor
open Go Go.RowKit Go.SL
open FK (dy ch bK)
variable {G : Env → Prop}
theorem zv {N f : Nat} {rg : Nat → FK.Pl} (hf : f ≤ N) : ip (ip ((List.range (max 4 (2 * N))).flatMap fun _ => fE ⟨0, 0, 0⟩) 0 ((rV N rg).drop (f * 3))) ((N - f) * 3) ((rV N rg).take (f * 3)) = rV (max 4 (2 * N)) (FK.kN N f rg) := by
 have hz : ((List.range (max 4 (2 * N))).flatMap fun _ => fE ⟨0, 0, 0⟩).length = max 4 (2 * N) * 3 := by rw [dY (k := 3) (fun _ => rfl), List.length_range]
 have hd : ((rV N rg).drop (f * 3)).length = (N - f) * 3 := by rw [List.length_drop, gN]; omega
 have ht : ((rV N rg).take (f * 3)).length = f * 3 := by rw [List.length_take, gN]; omega
 apply yo
 · rw [er, er, hz]
 · intro i j u hi hu
   have hj : j < 3 := by have := (List.getElem?_eq_some_iff.1 hu).1; simpa using this
   unfold FK.kN at hu
   split at hu
   · rename_i h1
     rw [f7 _ _ _ _ (by rw [ht]; omega)]
     have h2 := kL ((rV N rg).drop (f * 3)) ((List.range (max 4 (2 * N))).flatMap fun _ => fE ⟨0, 0, 0⟩) 0 (i * 3 + j) u (by rw [hd, hz]; omega) (by
      rw [List.getElem?_drop]
      have := qZ (N := N) (rg := rg) (i := f + i) (by omega) j u hu
      rwa [show 0 + (f + i) * 3 + j = f * 3 + (i * 3 + j) by omega] at this)
     rwa [Nat.zero_add] at h2
   · rename_i h1
     split at hu
     · rename_i h2
       have h3 := kL ((rV N rg).take (f * 3)) (ip ((List.range (max 4 (2 * N))).flatMap fun _ => fE ⟨0, 0, 0⟩) 0 ((rV N rg).drop (f * 3))) ((N - f) * 3) ((i - (N - f)) * 3 + j) u (by rw [ht, er, hz]; omega) (by
        rw [List.getElem?_take, if_pos (by omega)]
        have := qZ (N := N) (rg := rg) (i := i - (N - f)) (by omega) j u hu
        rwa [show 0 + (i - (N - f)) * 3 + j = (i - (N - f)) * 3 + j by omega] at this)
       rwa [show (N - f) * 3 + ((i - (N - f)) * 3 + j) = i * 3 + j by omega] at h3
     · rename_i h2
       rw [f7 _ _ _ _ (by rw [ht]; omega), f7 _ _ _ _ (by rw [hd]; omega)]
       exact gT (f := fun _ => fE ⟨0, 0, 0⟩) (k := 3) (fun _ => rfl) (l := List.range (max 4 (2 * N))) (x := i) j (by simp [hi]) hu
set_option maxRecDepth 10000 in
set_option maxHeartbeats 1000000 in
theorem nW {q : List FK.Pl} (e : Nat) (C : EC) (p : FK.Pl) (hq : q.length ≤ 400) : Does Tryz.prog G 175 [ox e, fZ p].toArray [cD e C q] fun v m => v = .tuple #[] ∧ m = [cD e C (q ++ [p])] := by
 refine Does.body Tryz.func175 Z Z fun E fr hE => ?_
 refine ai (At.seq (At.region (L.op Z (cc Z Z fun b3 => (jL (.tail (.head)) fun A N c f rg hR hA1 hA2 hc1 hc2 => ?_)))))
 have hlen := hR.len
 have hbig := hR.big
 refine L.nil (At.then ?_)
 refine At.seq (At.cut (X := Nat × Nat × Nat × Nat × (Nat → FK.Pl)) (fun y => [(0, ox e), (3, aL b3)]) (fun y => kG e C (.slice (some ⟨y.1, 0, none⟩) y.2.1 y.2.2.1) y.2.2.2.1 q.length :: row 268 3 (.slice (some ⟨y.1, 0, none⟩) y.2.1 y.2.2.1) y.2.1 (rV y.2.1 y.2.2.2.2) :: blk b3 268 (Ad p) :: fr) (fun y => FK.RingOk y.2.1 y.2.2.2.1 q y.2.2.2.2 ∧ q.length < y.2.1 ∧ y.2.1 ≤ y.2.2.1 ∧ y.2.2.1 ≤ maxLen) ?_ ?_)
 ·
  refine At.seq (Dr.start Z (dP 0 Z Z (ag Z) (dP 1 Z Z (aq Z) (dP 2 Z Z (ab (off := 2) Z Z) (dL 3 Z Z (aa Z Z) (ae Z) (dP 4 Z Z (ag Z) (dP 5 Z Z (aq Z) (dP 6 Z Z (ab (off := 0) Z Z) (dL 7 Z Z (aa Z Z) (ae Z) (dP 8 Z Z (aP Z Z) (dP 9 Z Z (aV Z Z Z) (dE (At.then ?_)))))))))))))
  refine aC Z (fun c15 => ?_) (fun c15 => ?_)
  ·
   have hqN : q.length = N := by omega
   have hA : A = none ∧ N = 0 ∨ ∃ g, A = some ⟨g, 0, none⟩ := by
    rcases Nat.eq_zero_or_pos N with h | h
    · rcases hA2 h with h' | h'
      · exact .inl ⟨h'.1, h⟩
      · exact .inr h'
    · exact .inr (hA1 h)
   have hfN : f ≤ N := by rcases hR.fst with h | h <;> omega
   refine At.seq (At.region (L.mv Z Z (aN Z Z (aE 0 Z Z Z (aX Z Z Z Z (L.pure Z (aP Z Z) ?_))))))
   refine L.pure Z (lF (r := ((2 * N : Nat) : Int)) Z Z (by rw [cT (by omega)]; omega)) ?_
   refine L.pure Z (lG (r := ((max 4 (2 * N) : Nat) : Int)) Z Z (by omega)) ?_
   refine L.op Z (vp (zc := fE ⟨0, 0, 0⟩) Z Z Cg Z Z (by omega) Z (by omega) (by omega) fun gb => ?_)
   refine L.as Z Z (L.nil (At.then (At.seq (Dr.start Z (dP 0 Z Z (ag Z) (dP 1 Z Z (ag Z) (dP 2 Z Z (aq Z) (dP 3 Z Z (ab (off := 0) Z Z) (dL 4 Z Z (aa Z Z) (ae Z) (dP 5 Z Z (ag Z) (dP 6 Z Z (aq Z) (dP 7 Z Z (ab (off := 1) Z Z) (dL 8 Z Z (aa Z Z) (ae Z) (dP 9 Z Z (zD (a := f) (z := 3) Z Z Z Z hfN hc1) ?_))))))))))))))
   refine dR 10 Z Z (yt (z := 3) (b := gb) (o := 0) (news := (rV N rg).drop (f * 3)) Z Z Z Z Z (by omega) (by rw [List.length_drop, gN]; omega) (Ao (.tail (.tail (.head))) hA hc1 (gN _ _)) (fun u hu => vh _ _ u (List.mem_of_mem_drop hu)) (by rw [List.length_drop, gN, List.size_toArray, dY (k := 3) (fun _ => rfl), List.length_range]; omega) ?_)
   refine Dr.kept [true, true] (by kernel_rfl) (Kept.cons (ae Z) (Kept.cons (ae Z) Kept.nil)) ?_
   refine dP 11 Z Z (az Z) (dE (At.then (At.seq (Dr.start Z (dP 0 Z Z (ag Z) (dP 1 Z Z (ag Z) ?_))))))
   refine dP 2 Z Z (zE (a := N - f) (z := 3) Z Z Z Z (by omega) (Nat.le_refl _) (by omega)) ?_
   refine dP 3 Z Z (ag Z) (dP 4 Z Z (aq Z) (dP 5 Z Z (ab (off := 0) Z Z) (dL 6 Z Z (aa Z Z) (ae Z) (dP 7 Z Z (ag Z) (dP 8 Z Z (aq Z) (dP 9 Z Z (ab (off := 1) Z Z) (dL 10 Z Z (aa Z Z) (ae Z) ?_)))))))
   refine dP 11 Z Z (zF (a := f) (z := 3) Z Z (hA.imp And.left id) Z Z (by omega)) ?_
   refine dR 12 Z Z (yt (z := 3) (b := gb) (o := (N - f) * 3) (news := (rV N rg).take (f * 3)) Z Z Z Z Z (by omega) (by rw [List.length_take, gN]; omega) (AQ (.tail (.tail (.head))) hA hfN) (fun u hu => vh _ _ u (List.mem_of_mem_take hu)) (by rw [List.length_take, gN, SL.eo, List.size_toArray, dY (k := 3) (fun _ => rfl), List.length_range]; omega) ?_)
   refine Dr.kept [true, true] (by kernel_rfl) (Kept.cons (ae Z) (Kept.cons (ae Z) Kept.nil)) ?_
   refine dE (At.then (At.region (L.mv Z Z (L.mv Z Z (L.mv Z Z (aN Z Z (aE 0 Z Z Z ?_)))))))
   refine L.st Z Z Z Z (by first | decide | simp | (simp; omega)) ?_
   refine aN Z Z (aE 1 Z Z Z ?_)
   refine L.st Z Z Z Z (by first | decide | simp | (simp; omega)) ?_
   refine L.nil ?_
   exact bk (gb, max 4 (2 * N), max 4 (2 * N), 0, FK.kN N f rg) ⟨hR.grow hqN (by omega), (by show q.length < max 4 (2 * N); omega), Nat.le_refl _, (show max 4 (2 * N) ≤ 9223372036854775807 by omega)⟩ ⟨rfl, rfl, trivial⟩ (by
    refine (Ent.cons (Ent.cons Ent.drop)).trans (Ent.cons (cq (m := max 4 (2 * N)) (Nat.le_refl _) (show max 4 (2 * N) ≤ 9223372036854775807 by omega) (by rw [SL.eo, SL.eo, List.size_toArray, dY (k := 3) (fun _ => rfl), List.length_range]) ?_))
    rw [gc, gc, List.toList_toArray, zv hfN, List.take_of_length_le (by rw [gN]; omega)])
  ·
   have hlt : q.length < N := by omega
   obtain ⟨g, rfl⟩ := hA1 (by omega)
   refine At.skip ?_
   exact bk (g, N, c, f, rg) ⟨hR, hlt, hc1, hc2⟩ ⟨rfl, rfl, trivial⟩ (Ent.refl _)
 clear hR hA1 hA2 hc1 hc2 hlen hbig
 clear A N c f rg
 rintro ⟨g, N, c, f, rg⟩ ⟨hR, hlt, hc1, hc2⟩
 replace hR : FK.RingOk N f q rg := hR
 replace hlt : q.length < N := hlt
 refine At.ent (l' := kG e C (.slice (some ⟨g, 0, none⟩) N c) f q.length :: row 268 3 (.slice (some ⟨g, 0, none⟩) N c) N (rV N rg) :: blk b3 268 (Ad p) :: fr) (Ent.refl _) ?_
 have hf : f < N := by rcases hR.fst with h | h <;> omega
 have hbig := hR.big
 have hix : (f + q.length) % N < N := Nat.mod_lt _ (by omega)
 refine At.seq (Dr.start Z (dP 0 Z Z (ag Z) (dP 1 Z Z (aq Z) (dP 2 Z Z (ab (off := 0) Z Z) (dL 3 Z Z (aa Z Z) (ae Z) (dP 4 Z Z (ag Z) (dP 5 Z Z (aq Z) (dP 6 Z Z (ab (off := 1) Z Z) (dL 7 Z Z (aa Z Z) (ae Z) (dP 8 Z Z (ag Z) (dP 9 Z Z (aq Z) (dP 10 Z Z (ab (off := 2) Z Z) (dL 11 Z Z (aa Z Z) (ae Z) ?_)))))))))))))
 refine dP 12 Z Z (aO (r := ((f + q.length : Nat) : Int)) Z Z (by rw [cT (by omega)]; omega)) ?_
 refine dP 13 Z Z (ag Z) (dP 14 Z Z (aq Z) (dP 15 Z Z (ab (off := 0) Z Z) (dL 16 Z Z (aa Z Z) (ae Z) (dP 17 Z Z (aP Z Z) ?_))))
 refine dP 18 Z Z (gO (r := (((f + q.length) % N : Nat) : Int)) Z Z (by omega) (by rw [iW (by omega) (by omega)])) ?_
 refine dL 19 Z Z (am (vs := fE p) Z Z Z Z) (av Z) (dP 20 Z Z (bD (z := 3) Z Z Z Z hix) ?_)
 refine dR 21 Z Z (jE (k := 3) (.tail (.head)) Z Z Z Z (by simp [Value.oneCell']) (by omega) ?_)
 rw [yn hix]
 refine Dr.kept [false, false, false, false, false] (by kernel_rfl) Kept.nil ?_
 refine dE (At.then (At.region (L.mv Z Z (aN Z Z (aE 2 Z Z Z (aX Z Z Z Z ?_))))))
 refine L.pure Z (aO (r := ((q.length + 1 : Nat) : Int)) Z Z (by rw [cT (by omega)]; omega)) ?_
 refine aN Z Z (aE 2 Z Z Z ?_)
 refine L.st Z Z Z Z (by first | decide | simp | (simp; omega)) ?_
 refine L.nil ?_
 have hR' := hR.push hlt p
 refine aZ [cD e C (q ++ [p])] rfl ⟨rfl, rfl⟩ ?_
 have hl : q.length + 1 = (q ++ [p]).length := by simp
 rw [hl]
 exact (Ent.cons (Ent.cons Ent.drop)).trans (eU hR')
end Go.Proofs.YtmeegfamopaljaaGreatDoor

namespace Go.SL
open Go Go.RowKit
open Go.ChangeMaps (setBlock)
def qw {K : Type} (enc : K → Value) (it b : Nat) (m left : List (K × Value)) (cur : Option (K × Value)) (w : World) : Prop :=
 ∃ es clock seen, w.heap[b]? = some (.map es clock) ∧ es.toList.map (fun e => (e.key, e.val)) = m.map (fun p => (enc p.1, p.2)) ∧ (∀ x ∈ es.toList, x.born < clock) ∧ (es.toList.map (·.born)).Nodup ∧
  w.heap[it]? = some (.mapIter (some b) clock seen clock) ∧ (leftOf es seen).toList.map (fun e => (e.key, e.val)) = left.map (fun p => (enc p.1, p.2)) ∧
  ∀ p, cur = some p → ∃ e ∈ es.toList, ∃ s' : Array Nat, seen = s'.push e.born ∧ e.key = enc p.1 ∧ e.val = p.2
def ct {K : Type} (enc : K → Value) (it b : Nat) (m left : List (K × Value)) (cur : Option (K × Value)) : HP where
 sat w F := (F it ∧ F b) ∧ qw enc it b m left cur w
 loc hFG hk h := ⟨⟨hFG _ h.1.1, hFG _ h.1.2⟩, let ⟨es, c, s, h1, h2, h3, h4, h5, h6⟩ := h.2; ⟨es, c, s, (hk _ h.1.2).trans h1, h2, h3, h4, (hk _ h.1.1).trans h5, h6⟩⟩
theorem Ent.ranged {K : Type} {enc : K → Value} {it b : Nat} {m left : List (K × Value)} {cur : Option (K × Value)} {r : List HP} : Ent (ct enc it b m left cur :: r) (bF enc b m :: r) := fun _w _ ⟨F1, F2, h1, h2, hd, hp, hl⟩ =>
 ⟨F1, F2, h1, h2, hd, ⟨hp.1.2, let ⟨es, c, _, a1, a2, a3, a4, _⟩ := hp.2; ⟨es, c, a1, a2, a3, a4⟩⟩, hl⟩
theorem od {α : Type} {f : α → Nat} : ∀ {l : List α} {j : Nat} {e : α}, (l.map f).Nodup → l[j]? = some e → l.filter (fun x => f x != f e) = l.eraseIdx j
 | [], _, _, _, h => by simp at h
 | a :: l, 0, e, hn, h => by
  simp at h; subst h
  rw [List.map_cons, List.nodup_cons] at hn
  simp only [List.eraseIdx_zero, List.tail_cons, List.filter_cons, bne_self_eq_false, Bool.false_eq_true, if_false]
  refine List.filter_eq_self.2 fun x hx => ?_
  have : f x ≠ f a := fun e => hn.1 (e ▸ List.mem_map_of_mem hx)
  simpa using this
 | a :: l, j + 1, e, hn, h => by
  rw [List.map_cons, List.nodup_cons] at hn
  have he : e ∈ l := List.mem_of_getElem? (by simpa using h)
  have : f a ≠ f e := fun q => hn.1 (q ▸ List.mem_map_of_mem he)
  rw [List.filter_cons, if_pos (by simpa using this), List.eraseIdx_cons_succ, od hn.2 (by simpa using h)]
theorem sE (es : Array MapEntry) (seen : Array Nat) (n : Nat) : (leftOf es (seen.push n)).toList = (leftOf es seen).toList.filter fun e => e.born != n := by
 unfold leftOf
 simp only [Array.toList_filter, List.filter_filter]
 refine List.filter_congr fun e _ => ?_
 by_cases h : e.born = n
 · simp [h]
 · simp [h]
section
variable {P : Program} {E : Env} {n : Nat} {D : List Deferred} {ts : List (Nat × Value)} {l : List HP} {ops : Array Oper} {Q : Exit → Act → World → Prop} {i : Nat} {ty : TypeId} {pos : String} {af : Array Edge} {g : Option (Nat × Bool)} {K : Type} {enc : K → Value}
theorem kK {t kt et : TypeId} {x : Operand} {b : Nat} {m : List (K × Value)} {r : List HP} {Kk : Act → World → Prop} (hi : Nat.blt i n = true) (ht : P.underlying t = some (.map kt et)) (hx : ev ts x = some (.map (some b))) (s : Sel (bF enc b m) l r)
 (h : ∀ it, At E n D ((i, .pointer (some ⟨it, 0, none⟩)) :: ts) (ct enc it b m m none :: r) Kk) : At E n D ts l (fun ac w => (Oper.mk (some i) (.range t x) ty pos af g).wp P ac w Kk Q) := fun ac w f hw => by
 have hw' := hw.sel s
 obtain ⟨es, c, hb, hm, hs1, hs2⟩ := fv .head w hw'
 have hg := MapKept.run_getObj_map (P := P) hb
 have hr : (execOp ac.eval (Oper.mk (some i) (.range t x) ty pos af g)).run P w = .ok (.value (.pointer (some ⟨w.heap.size, 0, none⟩))) (w.alloc (.mapIter (some b) c #[] c)) := by
  have hnew : (newObj (.mapIter (some b) c #[] c)).run P w = .ok w.heap.size (w.alloc (.mapIter (some b) c #[] c)) := rfl
  simp only [execOp, f.eval hx, Instr.range, Sem.run_bind, run_underlying ht, hg, Result.andThen_ok, Sem.run_pure, hnew]
 show (Oper.mk (some i) (.range t x) ty pos af g).wp P ac w Kk Q
 unfold Oper.wp
 rw [hr]
 have h0 := hw'.alloc (.mapIter (some b) c #[] c)
 have hlt : b < w.heap.size := (Array.getElem?_eq_some_iff.1 hb).1
 refine h _ _ _ (f.put i (Nat.le_of_ble_eq_true hi) _) ⟨h0.is, ?_⟩
 obtain ⟨F1, F2, h1, h2, hd, hp, G1, G2, g1, g2, gd, hq, hl⟩ := h0.star
 refine ⟨fun k => F1 k ∨ G1 k, G2, fun k hk => hk.elim (h1 k) (fun hk => h2 k (g1 k hk)), fun k hk => h2 k (g2 k hk), fun k a b => a.elim (fun a => hd k a (g2 k b)) (fun a => gd k a b), ⟨⟨.inl hp.1, .inr hq.1⟩, ?_⟩, hl⟩
 refine ⟨es, c, #[], ?_, hm, hs1, hs2, hp.2, ?_, fun p hp => by cases hp⟩
 · rw [Below.heap_alloc _ _ _ hlt]; exact hb
 · rw [← hm]
   congr 2
   unfold leftOf
   simp
theorem kJ {it b : Nat} {m left : List (K × Value)} {cur : Option (K × Value)} {r : List HP} (s : Sel (ct enc it b m left cur) l r) : ∀ w, Holds E w l → qw enc it b m left cur w := fun w hw => by
 obtain ⟨F1, _, _, _, _, hp, _⟩ := (hw.sel s).star
 exact hp.2
theorem jr {x : Operand} {it b : Nat} {m left : List (K × Value)} {cur : Option (K × Value)} {r : List HP} {Kk : Act → World → Prop} (hi : Nat.blt i n = true) (hx : ev ts x = some (.pointer (some ⟨it, 0, none⟩))) (s : Sel (ct enc it b m left cur) l r)
 (h0 : left = [] → At E n D ((i, .tuple #[.bool false]) :: ts) (ct enc it b m [] none :: r) Kk)
 (h1 : ∀ j p, left[j]? = some p → At E n D ((i, .tuple #[.bool true, enc p.1, p.2]) :: ts) (ct enc it b m (left.eraseIdx j) (some p) :: r) Kk) :
 At E n D ts l (fun ac w => (Oper.mk (some i) (.next x false) ty pos af g).wp P ac w Kk Q) := fun ac w f hw => by
 have hw' := hw.sel s
 obtain ⟨es, c, seen, hb, hm, hs1, hs2, hr, hl, hc⟩ := kJ .head w hw'
 show (Oper.mk (some i) (.next x false) ty pos af g).wp P ac w Kk Q
 rcases run_next_at (P := P) w ty it b c c seen es c hr hb hs1 (Nat.le_refl _) with ⟨hz, hrun⟩ | ⟨e, he, w1, hw1, hrun⟩
 · have hr' : (execOp ac.eval (Oper.mk (some i) (.next x false) ty pos af g)).run P w = .ok (.value (.tuple #[.bool false])) w := by
    simp [execOp, f.eval hx, hrun]
   unfold Oper.wp
   rw [hr']
   have hl0 : left = [] := by
    have := congrArg List.length hl
    rw [List.length_map, List.length_map, Array.length_toList, hz] at this
    exact List.eq_nil_of_length_eq_zero this.symm
   subst hl0
   refine h0 Z _ _ (f.put i (Nat.le_of_ble_eq_true hi) _) (hw'.ent ?_)
   exact fun w F ⟨F1, F2, a1, a2, a3, hp, a4⟩ => ⟨F1, F2, a1, a2, a3, ⟨hp.1, let ⟨es, c, s, q1, q2, q3, q4, q5, q6, _⟩ := hp.2; ⟨es, c, s, q1, q2, q3, q4, q5, q6, fun p hp => by cases hp⟩⟩, a4⟩
 · have hr' : (execOp ac.eval (Oper.mk (some i) (.next x false) ty pos af g)).run P w = .ok (.value (.tuple #[.bool true, e.key, e.val])) (setBlock w1 it (.mapIter (some b) c (seen.push e.born) c)) := by
    simp [execOp, f.eval hx, hrun]
   unfold Oper.wp
   rw [hr']
   obtain ⟨j, hj⟩ := List.getElem?_of_mem he
   have hlj := congrArg (fun l => l[j]?) hl
   simp only [List.getElem?_map, hj, Option.map_some] at hlj
   obtain ⟨p, hp, hpe⟩ : ∃ p, left[j]? = some p ∧ (e.key, e.val) = (enc p.1, p.2) := by
    cases hq : left[j]? with
    | none => rw [hq] at hlj; cases hlj
    | some p => rw [hq] at hlj; simp only [Option.map_some, Option.some.injEq] at hlj; exact ⟨p, rfl, hlj⟩
   simp only [Prod.mk.injEq] at hpe
   rw [hpe.1, hpe.2]
   have hwm : Holds E w1 (ct enc it b m left cur :: r) := by
    rcases hw1 with rfl | rfl
    · exact hw'
    · exact hw'.drawn _
   have hee : e ∈ es.toList := by
    unfold leftOf at he
    rw [Array.toList_filter] at he
    exact (List.mem_filter.1 he).1
   have heap1 : w1.heap = w.heap := by rcases hw1 with rfl | rfl <;> rfl
   have hne : it ≠ b := fun q => by rw [q, hb] at hr; cases hr
   refine h1 j p hp _ _ (f.put i (Nat.le_of_ble_eq_true hi) _) ?_
   refine hwm.turn Z Z Z (by simp [setBlock]) fun F1 hF hFr => ⟨F1, fun k hk => ⟨.inl hk, by simpa [setBlock] using (hFr k hk).1⟩, ⟨hF.1, es, c, seen.push e.born, ?_, hm, hs1, hs2, ?_, ?_, ?_⟩, fun k _ hk => ?_⟩
   · show (w1.heap.setIfInBounds it _)[b]? = _
     rw [Array.getElem?_setIfInBounds_ne hne, heap1]; exact hb
   · show (w1.heap.setIfInBounds it _)[it]? = _
     have := (hFr it hF.1.1).1
     simp [this]
   · rw [sE, od (f := fun e : MapEntry => e.born) ?_ hj, ff, hl, ← ff]
     unfold leftOf
     rw [Array.toList_filter]
     exact hs2.sublist (List.filter_sublist.map _)
   · intro q hq
     injection hq with hq
     subst hq
     exact ⟨e, hee, seen, rfl, hpe.1, hpe.2⟩
   · have : k ≠ it := fun q => by subst q; exact hk hF.1.1
     show (w1.heap.setIfInBounds it _)[k]? = _
     rw [Array.getElem?_setIfInBounds_ne (Ne.symm this)]
theorem nE {x : Operand} {it b : Nat} {m left : List (K × Value)} {p : K × Value} (hx : ev ts x = some (.pointer (some ⟨it, 0, none⟩))) : Ev P ts (.entry x) (.tuple #[enc p.1, p.2]) (qw enc it b m left (some p)) := by
 intro ac w _ _ _ _ _ kn ⟨es, c, seen, hb, hm, hs1, hs2, hr, hl, hc⟩
 obtain ⟨e, he, s', rfl, hk, hv⟩ := hc p rfl
 have := run_entry_at (P := P) w it b c s' es c e hr hb he hs2
 rw [hk, hv] at this
 simp [execOp, kn.eval hx, this]
end
end Go.SL

namespace Go.Proofs.YtmeegfamopaljaaGreatDoor
open Go Go.RowKit Go.Deep
set_option maxRecDepth 100000 in
set_option maxHeartbeats 4000000 in
theorem ls (w : World) (B : Nat) (A : Option Addr) (c : Nat) (l : List FK.Node) (F : FuncId) (cap : Array Value) (I : World → List Nat → Prop) (hB : B ≤ w.heap.size) (hl : l.length ≤ 12)
 (hv : ∀ i, ∀ k ∈ FK.cO l i, k < l.length) (hpos : ∀ n ∈ l, ∀ x ∈ n.after, 0 ≤ x)
 (hF : ∀ (args : Array Value) (W : World), (callFunc F args).run Tryz.prog W = .ok (.enter F args) W) (h0 : I w []) (hI : ∀ W T, I W T → NodesAt W B A c l ∧ Tab W ∧ w.heap.size ≤ W.heap.size)
 (hstab : ∀ W W' T, I W T → Below w.heap.size W W' → I W' T)
 (htell : ∀ W T k, I W T → w.heap.size < W.heap.size → k < l.length → k ∉ T → (∀ j ∈ FK.cO l k, j ∈ T) → Calls Tryz.prog F (#[.int .i64 k] ++ cap) W fun e W' =>
  e = .returned (.tuple #[]) ∧ I W' (T ++ [k]) ∧ W.heap.size ≤ W'.heap.size ∧ ∀ b, w.heap.size ≤ b → b < W.heap.size → W'.heap[b]? = W.heap[b]?) :
 Calls Tryz.prog 139 #[.slice A l.length c, .func (.func F) #[] cap] w (vM I l) := by
 have HN := Lib.hid (hI w [] h0).1
 have H0 := Lib.hid h0
 have HI := Lib.hid hI
 have HS := Lib.hid hstab
 have HT := Lib.hid htell
 have HV := Lib.hid hv
 have HP := Lib.hid hpos
 clear h0 hI hstab htell hv hpos
 have hmk : ∀ W : World, (Instr.makeSlice 310 (.int .i64 (l.length : Int)) (.int .i64 (l.length : Int))).run Tryz.prog W = .ok (.slice (some ⟨W.heap.size, 0, none⟩) l.length l.length) (W.alloc (.cells (cy l.length (cp l 0 0)) 87)) := fun W => by
  rw [← ml]
  exact run_make_row' (P := Tryz.prog) 310 87 (.int .u64 0) 8 Tryz.underlying310 (by kernel_rfl) rfl .i64 .i64 l.length (by omega) (by omega) W
 obtain ⟨left, hleft0⟩ : ∃ x, x = 2 ^ l.length - 1 := ⟨_, rfl⟩
 have hleft : IntKind.u64.wrap (IntKind.u64.wrap (2 ^ l.length) - 1) = (left : Int) := by rw [n7 hl, hleft0]
 have HO0 : Hid (FK.Ordering l left []) := by rw [hleft0]; exact .start l
 clear hleft0
 obtain ⟨T, HT0⟩ : ∃ T : List Nat, Hid (T = []) := ⟨_, rfl⟩
 rw [← HT0.out] at HO0 H0
 go_enter Tryz.func139, Tryz.ntmps139
 go_wp2
 refine wp_scope_jumps 0 (BA w A c l F cap I) (fun a _ => (intOf (a.tmps.getD 4 undef)).toNat) rfl ?_ ?_
 · go_wp2
   go_loopw [21] (fun i wr => ∃ k : Nat, k ≤ l.length ∧ i = .int .i64 k ∧ Blk wr w.heap.size 87 (cy l.length (cp l k 0)) ∧ Below w.heap.size w wr) (fun i _ => l.length - (intOf i).toNat)
   case atStart => exact ⟨0, by omega, rfl, Blk.made _ _ _, (Below.refl _ _).alloc (Nat.le_refl _) _⟩
   case round =>
    obtain ⟨k, hk, rfl, hblk, hsame⟩ := hrel
    have hlt' := hblk.lt
    by_cases hlt : k < l.length
    · obtain ⟨h1, h2, h3⟩ := HN.out
      obtain ⟨b, off, rfl, hbB, hcell⟩ := h3 (by omega)
      have hnode := (hcell k l[k] (by simp [hlt])).keep (hsame.to_same.mono hB) hbB
      obtain ⟨c0, c1, c2, c3, c4, c5, ⟨A6, n6, c6, hi⟩, hr⟩ := hnode
      have HI6 := Lib.hid hi
      have HBLK := Lib.hid hblk
      have HSAME := Lib.hid hsame
      clear hcell h3 hr hi hblk hsame
      go_wp2
      obtain ⟨wo, rfl⟩ : ∃ wo : World, wo = wr := ⟨_, rfl⟩
      go_loopw [29] (fun i ws => ∃ m : Nat, m ≤ l[k].after.length ∧ i = .int .i64 m ∧ Blk ws w.heap.size 87 (cy l.length (cp l k m)) ∧ Below w.heap.size w ws) (fun i _ => l[k].after.length - (intOf i).toNat)
      case atStart => exact ⟨0, by omega, rfl, HBLK.out.same (B := wo.heap.size) (fun x hx => Below.heap_alloc _ _ _ hx) hlt', HSAME.out.alloc (by omega) _⟩
      case round =>
       obtain ⟨m, hm, rfl, hblk, hsame⟩ := hrel
       have haft : FK.cO l k = l[k].after.map Int.toNat := FK.tu (by simp [hlt])
       by_cases hmlt : m < l[k].after.length
       · have hback : Same B wo wr := fun x hx => (hsame.block x (by omega)).trans (HSAME.out.block x (by omega)).symm
         obtain ⟨b6, o6, hA6, hb6, hc6⟩ := (HI6.out.keep hback).cells (by omega)
         have hxm := hc6 m l[k].after[m] (by simp [hmlt])
         have hx0 : 0 ≤ l[k].after[m] := HP.out l[k] (List.getElem_mem _) _ (List.getElem_mem _)
         have hx1 := HV.out k l[k].after[m].toNat (by rw [haft]; exact List.mem_map_of_mem (List.getElem_mem _))
         obtain ⟨xn, hxn⟩ : ∃ xn : Nat, l[k].after[m] = (xn : Int) := ⟨l[k].after[m].toNat, by omega⟩
         have hget : (FK.cO l k)[m]? = some xn := by rw [haft, List.getElem?_map, List.getElem?_eq_getElem hmlt, hxn]; simp
         rw [hxn] at hxm hx0 hx1
         simp only [Int.toNat_natCast] at hx1
         have hlt1 : cp l k m k < 18446744073709551616 := Nat.lt_of_lt_of_le (iH (n := 12) fun i x hx => by have := HV.out i x hx; omega) (by decide)
         have hlt2 : 2 ^ xn < 18446744073709551616 := Nat.lt_of_lt_of_le (Nat.pow_lt_pow_right (n := 12) (by omega) (by omega)) (by decide)
         have hcell : wr.cell? ⟨w.heap.size, k, none⟩ = some (.int .u64 (cp l k m k : Nat)) := by rw [hblk.cell]; exact eG hlt
         have hfree : wr.frozen? ⟨w.heap.size, k, none⟩ = false := hblk.free k
         have hsh : IntKind.u64.wrap (2 ^ xn) = 2 ^ xn := iV (by omega)
         have hor : bits BinOp.or IntKind.u64 ((cp l k m k : Nat) : Int) (2 ^ xn) = ((cp l k (m + 1) k : Nat) : Int) := by
          have := bits_or_u64_nat (cp l k m k) (2 ^ xn) hlt1 hlt2
          rw [n0 hget, Nat.one_shiftLeft, ← this]; simp
         have HB := Lib.hid hblk
         have HS2 := Lib.hid hsame
         have hsz := hblk.lt
         have hal := HI6.out.len
         have hac := HI6.out.cap
         subst hA6
         clear haft hback hc6 hxn hget hlt1 hlt2 hblk hsame
         go_wp2
         go_region
         go_wp2
         go_roundw
         case rel => exact ⟨m + 1, by omega, by go_num, mo HB.out fun x hx => mm hx, (by repeat (first | exact HS2.out | refine below_drewN ?_ _ | refine Below.drew ?_ | refine Below.alloc ?_ (by first | omega | (simp; done) | (simp; omega)) _ | refine Below.setCell ?_ (by first | omega | (simp; done) | (simp; omega)) _))⟩
         case measure => simp [intOf]; omega
       · have HB := Lib.hid hblk
         have HS2 := Lib.hid hsame
         have hsz := hblk.lt
         have HN2 := Lib.hid (n4 (l := l) (i := k) (m := m) (by rw [haft]; simp; omega))
         clear haft hblk hsame
         go_wp2
         go_roundw
         case rel => exact ⟨k + 1, by omega, by go_num, by rw [← HN2.out]; exact HB.out, HS2.out⟩
         case measure => simp [intOf]; omega
    · obtain rfl : k = l.length := by omega
      have hi := HS.out w wr T H0.out hsame
      have ho := HO0.out
      go_wp2
      go_step3
      go_wp2
      have hl4 := ge ho hl
      have HI1 := Lib.hid hi
      have HO := Lib.hid ho
      have HB := Lib.hid hblk
      have hsz := hblk.lt
      clear hi ho hblk
      go_loop [4, 10] (fun s t => ∃ wv : Nat, s = .int .u64 left ∧ t = .int .u64 wv ∧ Asked l left wv ∧ wv < 4096) (fun _ t => (intOf t).toNat)
      case atStart => exact ⟨left, rfl, rfl, .start _ _, hl4⟩
      case round =>
       obtain ⟨wv, rfl, rfl, hask, hw4⟩ := hrel
       have HASK := Lib.hid hask
       clear hask
       by_cases hz : wv = 0
       · have hne : ((wv : Int) != 0) = false := by simp [hz]
         have HZ := Lib.hid hz
         clear hz
         go_wp2
         simp only [Exit.jump]
         go_ret
         exact ⟨left, T, rfl, HI1.out, HO.out, fun i hi => (HASK.out.2 i hi).resolve_left (by rw [HZ.out]; simp)⟩
       · obtain ⟨t1, t2, t3⟩ := jQ wv (by omega) hz
         have HTZ := Lib.hid (jw wv (by omega) hz wr (HI.out _ _ HI1.out).2.1)
         have hne : ((wv : Int) != 0) = true := by simp; omega
         generalize Lib.ctz 64 wv = t at HTZ t1 t2 t3
         have htl : left.testBit t = true := HASK.out.1 t t1
         have htn : t < l.length := ((HO.out.bits t).1 htl).1
         have hnf : cp l l.length 0 t = FK.fj (FK.cO l t) := by simp [cp, htn]
         obtain ⟨nf, hnfe⟩ : ∃ nf, nf = cp l l.length 0 t := ⟨_, rfl⟩
         have hnf4 : nf < 4096 := by rw [hnfe]; exact iH (n := 12) fun i x hx => by have := HV.out i x hx; omega
         have hcell : wr.cell? ⟨w.heap.size, t, none⟩ = some (.int .u64 (nf : Nat)) := by rw [HB.out.cell, hnfe]; exact eG htn
         have hzero := FK.fX (FK.cO l t) left
         rw [← hnf, ← hnfe] at hzero
         have HZERO := Lib.hid hzero
         have T1 := Lib.hid t1
         have T2 := Lib.hid t2
         have TL := Lib.hid htl
         have HZ := Lib.hid hz
         by_cases hb : nf &&& left = 0
         · have hand : bits BinOp.and IntKind.u64 (nf : Int) (left : Int) = 0 := by rw [eV _ _ hnf4 hl4, hb]; rfl
           have hsh : IntKind.u64.wrap (2 ^ t) = 2 ^ t := iV t3
           have handn : bits BinOp.andNot IntKind.u64 (left : Int) (2 ^ t) = ((clr left t : Nat) : Int) := by
            have hp : 2 ^ t < 2 ^ 64 := Nat.pow_lt_pow_right (by omega) t3
            have := u64_andNot_nat left (2 ^ t) (by omega) (by simpa using hp)
            simpa [clr] using this
           have hfree : ∀ k ∈ FK.cO l t, left.testBit k = false := hzero.1 hb
           have htold : ∀ j ∈ FK.cO l t, j ∈ T := fun j hj => Classical.byContradiction fun hn => by
            have h1 := (HO.out.bits j).2 ⟨HV.out t j hj, hn⟩
            rw [hfree j hj] at h1; cases h1
           have HTELL := Lib.hid (HT.out wr T t HI1.out hsz htn ((HO.out.bits t).1 htl).2 htold)
           have HFREE := Lib.hid hfree
           clear hnf hnfe hzero t1 t2 htl hz hb hfree htold
           go_wp2_with (go_at_call 141; refine HTZ.out.mono ?_; rintro e w2 ⟨rfl, rfl⟩)
           refine HTELL.out.mono ?_
           rintro e w3 ⟨rfl, hi3, hsz3, hsame3⟩
           have HI3 := Lib.hid hi3
           have HSAME3 := Lib.hid hsame3
           clear hi3 hsame3
           go_wp2
           go_step3
           exact ⟨rfl, ⟨clr left t, T ++ [t], _, _, _, _, _, _, _, _, _, _, _, _, _, _, _, _, _, _, _, _, _, _, _, _, _, _, _, _, _, _, _, _, _, _, _, _, _, _, _, _, _, _, _, _, _, _, _, _, _, _, _, _, _, _, _, _, _, _, _, _, _, _, _, rfl, HI3.out, HO.out.tell TL.out HFREE.out (gf t3 (by omega)), (HSAME3.out _ (Nat.le_refl _) hsz).trans HB.out⟩⟩
         · have hand : bits BinOp.and IntKind.u64 (nf : Int) (left : Int) = ((nf &&& left : Nat) : Int) := eV _ _ hnf4 hl4
           have hne2 : (((nf &&& left : Nat) : Int) == 0) = false := by simp; omega
           have hw : bits BinOp.and IntKind.u64 (wv : Int) ((wv : Int) - 1) = ((wv &&& (wv - 1) : Nat) : Int) := by
            have := eV wv (wv - 1) hw4 (by omega)
            rwa [show ((wv - 1 : Nat) : Int) = (wv : Int) - 1 by omega] at this
           have hdec := kc hz
           have hex : ∃ k ∈ FK.cO l t, left.testBit k = true := Classical.byContradiction fun hn => hb (hzero.2 fun k hk => by
            cases hx : left.testBit k with
            | false => rfl
            | true => exact absurd ⟨k, hk, hx⟩ hn)
           have HEX := Lib.hid hex
           have hz1 : 1 ≤ wv := by omega
           clear hnf hnfe hzero t1 t2 htl hz hb hex
           go_wp2_with (go_at_call 141; refine HTZ.out.mono ?_; rintro e w2 ⟨rfl, rfl⟩)
           go_round
           case rel => exact ⟨wv &&& (wv - 1), rfl, rfl, HASK.out.next T1.out T2.out HEX.out, by omega⟩
           case measure => simp [intOf]; omega
 · rintro a' w' ⟨left, T, u2, u3, u6, u7, u8, u9, u10, u11, u12, u13, u14, u15, u16, u17, u18, u19, u20, u21, u22, u23, u24, u25, u26, u27, u28, u29, u30, u31, u32, u33, u34, u35, u36, u37, u38, u39, u40, u41, u42, u43, u44, u45, u46, u47, u48, u49, u50, u51, u52, u53, u54, u55, u56, u57, u58, u59, u60, u61, u62, u63, u64, u65, u66, rfl, hi, ho, hblk⟩
   go_wp2
   have hl4 := ge ho hl
   have HI1 := Lib.hid hi
   have HO := Lib.hid ho
   have HB := Lib.hid hblk
   have hsz := hblk.lt
   clear hi ho hblk
   go_loop [4, 10] (fun s t => ∃ wv : Nat, s = .int .u64 left ∧ t = .int .u64 wv ∧ Asked l left wv ∧ wv < 4096) (fun _ t => (intOf t).toNat)
   case atStart => exact ⟨left, rfl, rfl, .start _ _, hl4⟩
   case round =>
    obtain ⟨wv, rfl, rfl, hask, hw4⟩ := hrel
    have HASK := Lib.hid hask
    clear hask
    by_cases hz : wv = 0
    · have hne : ((wv : Int) != 0) = false := by simp [hz]
      have HZ := Lib.hid hz
      clear hz
      go_wp2
      simp only [Exit.jump]
      go_ret
      exact ⟨left, T, rfl, HI1.out, HO.out, fun i hi => (HASK.out.2 i hi).resolve_left (by rw [HZ.out]; simp)⟩
    · obtain ⟨t1, t2, t3⟩ := jQ wv (by omega) hz
      have HTZ := Lib.hid (jw wv (by omega) hz w' (HI.out _ _ HI1.out).2.1)
      have hne : ((wv : Int) != 0) = true := by simp; omega
      generalize Lib.ctz 64 wv = t at HTZ t1 t2 t3
      have htl : left.testBit t = true := HASK.out.1 t t1
      have htn : t < l.length := ((HO.out.bits t).1 htl).1
      have hnf : cp l l.length 0 t = FK.fj (FK.cO l t) := by simp [cp, htn]
      obtain ⟨nf, hnfe⟩ : ∃ nf, nf = cp l l.length 0 t := ⟨_, rfl⟩
      have hnf4 : nf < 4096 := by rw [hnfe]; exact iH (n := 12) fun i x hx => by have := HV.out i x hx; omega
      have hcell : w'.cell? ⟨w.heap.size, t, none⟩ = some (.int .u64 (nf : Nat)) := by rw [HB.out.cell, hnfe]; exact eG htn
      have hzero := FK.fX (FK.cO l t) left
      rw [← hnf, ← hnfe] at hzero
      have HZERO := Lib.hid hzero
      have T1 := Lib.hid t1
      have T2 := Lib.hid t2
      have TL := Lib.hid htl
      have HZ := Lib.hid hz
      by_cases hb : nf &&& left = 0
      · have hand : bits BinOp.and IntKind.u64 (nf : Int) (left : Int) = 0 := by rw [eV _ _ hnf4 hl4, hb]; rfl
        have hsh : IntKind.u64.wrap (2 ^ t) = 2 ^ t := iV t3
        have handn : bits BinOp.andNot IntKind.u64 (left : Int) (2 ^ t) = ((clr left t : Nat) : Int) := by
         have hp : 2 ^ t < 2 ^ 64 := Nat.pow_lt_pow_right (by omega) t3
         have := u64_andNot_nat left (2 ^ t) (by omega) (by simpa using hp)
         simpa [clr] using this
        have hfree : ∀ k ∈ FK.cO l t, left.testBit k = false := hzero.1 hb
        have htold : ∀ j ∈ FK.cO l t, j ∈ T := fun j hj => Classical.byContradiction fun hn => by
         have h1 := (HO.out.bits j).2 ⟨HV.out t j hj, hn⟩
         rw [hfree j hj] at h1; cases h1
        have HTELL := Lib.hid (HT.out w' T t HI1.out hsz htn ((HO.out.bits t).1 htl).2 htold)
        have HFREE := Lib.hid hfree
        clear hnf hnfe hzero t1 t2 htl hz hb hfree htold
        go_wp2_with (go_at_call 141; refine HTZ.out.mono ?_; rintro e w2 ⟨rfl, rfl⟩)
        refine HTELL.out.mono ?_
        rintro e w3 ⟨rfl, hi3, hsz3, hsame3⟩
        have HI3 := Lib.hid hi3
        have HSAME3 := Lib.hid hsame3
        clear hi3 hsame3
        go_wp2
        go_step3
        exact ⟨rfl, ⟨clr left t, T ++ [t], _, _, _, _, _, _, _, _, _, _, _, _, _, _, _, _, _, _, _, _, _, _, _, _, _, _, _, _, _, _, _, _, _, _, _, _, _, _, _, _, _, _, _, _, _, _, _, _, _, _, _, _, _, _, _, _, _, _, _, _, _, _, _, rfl, HI3.out, HO.out.tell TL.out HFREE.out (gf t3 (by omega)), (HSAME3.out _ (Nat.le_refl _) hsz).trans HB.out⟩, by have := clr_lt t3 (by omega) TL.out; simpa [intOf] using this⟩
      · have hand : bits BinOp.and IntKind.u64 (nf : Int) (left : Int) = ((nf &&& left : Nat) : Int) := eV _ _ hnf4 hl4
        have hne2 : (((nf &&& left : Nat) : Int) == 0) = false := by simp; omega
        have hw : bits BinOp.and IntKind.u64 (wv : Int) ((wv : Int) - 1) = ((wv &&& (wv - 1) : Nat) : Int) := by
         have := eV wv (wv - 1) hw4 (by omega)
         rwa [show ((wv - 1 : Nat) : Int) = (wv : Int) - 1 by omega] at this
        have hdec := kc hz
        have hex : ∃ k ∈ FK.cO l t, left.testBit k = true := Classical.byContradiction fun hn => hb (hzero.2 fun k hk => by
         cases hx : left.testBit k with
         | false => rfl
         | true => exact absurd ⟨k, hk, hx⟩ hn)
        have HEX := Lib.hid hex
        have hz1 : 1 ≤ wv := by omega
        clear hnf hnfe hzero t1 t2 htl hz hb hex
        go_wp2_with (go_at_call 141; refine HTZ.out.mono ?_; rintro e w2 ⟨rfl, rfl⟩)
        go_round
        case rel => exact ⟨wv &&& (wv - 1), rfl, rfl, HASK.out.next T1.out T2.out HEX.out, by omega⟩
        case measure => simp [intOf]; omega
end Go.Proofs.YtmeegfamopaljaaGreatDoor

namespace Go.SL
open Go Go.RowKit
def under (n : Nat) (p : HP) : HP where
 sat w F := p.sat w (fun k => F k ∧ k < n)
 loc hFG hk h := p.loc (fun _ h => ⟨hFG _ h.1, h.2⟩) (fun _ h => hk _ h.1) h
theorem Star.under {w : World} {n : Nat} : ∀ {l : List HP} {F : Nat → Prop}, Star w l F → (∀ k, F k → k < n) → Star w (l.map (under n)) F
 | [], _, _, _ => trivial
 | p :: _l, _F, ⟨F1, F2, h1, h2, hd, hp, hl⟩, hF => ⟨F1, F2, h1, h2, hd, p.loc (fun k h => ⟨h, hF k (h1 k h)⟩) (fun _ _ => rfl) hp, Star.under hl fun k h => hF k (h2 k h)⟩
theorem jg {w : World} {n : Nat} : ∀ {l : List HP} {F : Nat → Prop}, Star w (l.map (SL.under n)) F → Star w l (fun k => F k ∧ k < n)
 | [], _, _ => trivial
 | _p :: _l, _F, ⟨F1, F2, h1, h2, hd, hp, hl⟩ => ⟨fun k => F1 k ∧ k < n, fun k => F2 k ∧ k < n, fun k h => ⟨h1 k h.1, h.2⟩, fun k h => ⟨h2 k h.1, h.2⟩, fun k a b => hd k a.1 b.1, hp, jg hl⟩
def xY (E : Env) (n : Nat) (W0 : World) : HP where
 sat w F := ∀ k, n ≤ k → E.free W0 k → F k ∧ w.heap[k]? = W0.heap[k]?
 loc hFG hk h := fun k a b => ⟨hFG _ (h k a b).1, (hk _ (h k a b).1).trans (h k a b).2⟩
theorem zg {E : Env} {n : Nat} {W0 W : World} {F : Nat → Prop} (h : (xY E n W0).sat W F) (i0 : E.is W0) (i : E.is W) : ∀ b, n ≤ b → b < W0.heap.size → W.heap[b]? = W0.heap[b]? := fun b hb hlt => by
 by_cases hf : ∃ p ∈ E.fixed, p.1 = b
 · obtain ⟨p, hp, rfl⟩ := hf
   rw [i.fixed p hp, i0.fixed p hp]
 · exact (h b hb ⟨hlt, fun p hp e => hf ⟨p, hp, e⟩⟩).2
end Go.SL
namespace Go.Proofs.YtmeegfamopaljaaGreatDoor
open Go Go.RowKit Go.SL
variable {G : Env → Prop}
theorem t8 {l : List FK.Node} {A : Option Addr} {c : Nat} {F : FuncId} {cap : Array Value} {L : List Nat → List HP} (hl : l.length ≤ 12) (hv : ∀ i, ∀ k ∈ FK.cO l i, k < l.length) (hpos : ∀ n ∈ l, ∀ x ∈ n.after, 0 ≤ x)
 (hF : ∀ (args : Array Value) (W : World), (callFunc F args).run Tryz.prog W = .ok (.enter F args) W) (hG : ∀ E w, G E → E.is w → Tab w)
 (hnodes : ∀ n T w F, Star w (L T) F → (∀ k, F k → k < n) → NodesAt w n A c l)
 (htell : ∀ n T k, k < l.length → k ∉ T → (∀ j ∈ FK.cO l k, j ∈ T) → Does Tryz.prog G F (#[.int .i64 k] ++ cap) ((L T).map (SL.under n)) fun v m => v = .tuple #[] ∧ m = (L (T ++ [k])).map (SL.under n)) :
 Does Tryz.prog G 139 #[.slice A l.length c, .func (.func F) #[] cap] (L []) fun v m => ∃ left T, v = .int .u64 (left : Nat) ∧ FK.Ordering l left T ∧ (∀ i, left.testBit i = true → ∃ k ∈ FK.cO l i, left.testBit k = true) ∧ m = L T := fun E w fr hE hw => by
 have hfix : ∀ q ∈ E.fixed, q.1 < w.heap.size := fun q hq => (Array.getElem?_eq_some_iff.1 (hw.is.fixed q hq)).1
 refine (ls w w.heap.size A c l F cap (fun W T => E.is W ∧ w.heap.size ≤ W.heap.size ∧ Star W (L T ++ fr) (E.free w)) (Nat.le_refl _) hl hv hpos hF ⟨hw.is, Nat.le_refl _, hw.star⟩ ?_ ?_ ?_).mono ?_
 · rintro W T ⟨h1, h2, h3⟩
   obtain ⟨F1, F2, f1, _, _, g1, _⟩ := Star.append h3
   exact ⟨hnodes w.heap.size T W F1 g1 (fun k hk => (f1 k hk).1), hG E W hE h1, h2⟩
 · rintro W W' T ⟨h1, h2, h3⟩ hb
   refine ⟨⟨hb.os.trans h1.os, hb.tape.trans h1.tape, hb.output.trans h1.output, fun q hq => (hb.block q.1 (hfix q hq)).trans (h1.fixed q hq)⟩, Nat.le_trans h2 hb.size, h3.loc (fun _ h => h) fun k hk => hb.block k hk.1⟩
 · rintro W T k ⟨h1, h2, h3⟩ hsz hk hnT hT
   have hst : Star W (((L T).map (SL.under w.heap.size)) ++ (fr.map (SL.under w.heap.size) ++ [xY E w.heap.size W])) (E.free W) := by
    have a1 : Star W ((L T ++ fr).map (SL.under w.heap.size)) (E.free w) := Star.under h3 fun k h => h.1
    rw [List.map_append] at a1
    have := gI (m := [xY E w.heap.size W]) (F := E.free W) (F1 := E.free w) (F2 := fun k => w.heap.size ≤ k ∧ E.free W k) (fun k h => ⟨Nat.lt_of_lt_of_le h.1 h2, h.2⟩) (fun k h => h.2) (fun k a b => by have := a.1; omega) a1 ⟨fun k => w.heap.size ≤ k ∧ E.free W k, fun _ => False, fun _ h => h, fun _ h => h.elim, fun _ _ h => h.elim, fun k a b => ⟨⟨a, b⟩, rfl⟩, trivial⟩
    rwa [List.append_assoc] at this
   refine (htell w.heap.size T k hk hnT hT E W _ hE ⟨h1, hst⟩).mono ?_
   rintro e W' ⟨v, m, rfl, ⟨rfl, rfl⟩, hH⟩
   have hs1 := hH.star
   rw [← List.append_assoc] at hs1
   obtain ⟨G1, G2, g1, g2, gd, b1, b2⟩ := Star.append hs1
   obtain ⟨K1, K2, k1, _, _, hm, _⟩ := b2
   have hall := zg hm h1 hH.is
   rw [← List.map_append] at b1
   have b3 := jg b1
   have hsz' : W.heap.size ≤ W'.heap.size := by
    have h4 := hall (W.heap.size - 1) (by omega) (by omega)
    have h5 : W.heap[W.heap.size - 1]? = some (W.heap[W.heap.size - 1]'(by omega)) := Array.getElem?_eq_getElem _
    rw [h5] at h4
    have := (Array.getElem?_eq_some_iff.1 h4).1
    omega
   exact ⟨rfl, ⟨hH.is, Nat.le_trans h2 hsz', b3.mono fun k h => ⟨h.2, (g1 k h.1).2⟩⟩, hsz', hall⟩
 · rintro e w' ⟨left, T, rfl, ⟨h1, h2, h3⟩, h4, h5⟩
   exact ⟨_, _, rfl, ⟨left, T, rfl, h4, h5, rfl⟩, h1, h3.mono fun k h => ⟨Nat.lt_of_lt_of_le h.1 h2, h.2⟩⟩
end Go.Proofs.YtmeegfamopaljaaGreatDoor

namespace Go.SL
open Go Go.RowKit
section
variable {P : Program} {E : Env} {n : Nat} {D : List Deferred} {ts : List (Nat × Value)} {l : List HP} {ops : Array Oper} {Q : Exit → Act → World → Prop} {fuel : Nat} {listed : Array Bool} {S : List (Nat × (World → Prop))}
def mU : Value → Bool → Bool
 | .bool c, b => c != b
 | _, _ => true
theorem tB {a : Act} {o : Oper} {j t : Nat} {b : Bool} {u : Value} (f : Fits n D ts a) (hg : o.guard = some (j, b)) (ht : (ops[j]?).bind (·.dst) = some t) (hv : look t ts = some u) (hb : mU u b = true) : Region.wanted o (yielded ops a.tmps) = false := by
 have h1 := f.get t u hv
 have hy : yielded ops a.tmps j ≠ some b := by
  unfold yielded
  rw [ht, Option.bind_some, h1]
  cases u <;> simp_all [mU]
 simp only [Region.wanted, hg]
 cases hq : yielded ops a.tmps j with
 | none => rfl
 | some c =>
  rw [hq] at hy
  cases c <;> cases b <;> simp_all
theorem Dr.skip (i : Nat) {o : Oper} {d j t : Nat} {b : Bool} {u : Value} (hi : ops[i]? = some o) (ho : o.dst = some d) (hd : Nat.blt d n = true) (hg : o.guard = some (j, b)) (ht : (ops[j]?).bind (·.dst) = some t) (hv : look t ts = some u) (hb : mU u b = true) (hm : dI ops listed i = true)
 (h : At E n D ((d, undef) :: ts) l (eK P ops (bm Q) fuel (listed.setIfInBounds i true) S)) : At E n D ts l (eK P ops (bm Q) (fuel + 1) listed S) := fun a w f hw hS => by
 simp only [dI, Bool.and_eq_true] at hm
 have hS' : ∀ p ∈ (i, Any) :: S, p.2 w := fun p hp => by
  rcases List.mem_cons.1 hp with rfl | hp
  · trivial
  · exact hS p hp
 refine f9 (v := undef) (φ := Any) hi (Region.noSelect_spec hm.1.1) (fun _ _ _ h => h.elim) fuel listed S a w (Region.free_spec hi hm.2) (by simpa using hm.1.2) (.inr ⟨tB f hg ht hv hb, rfl⟩) trivial hS ?_
 rw [ho]
 exact jC fuel _ S i _ w (h _ w (f.put d (Nat.le_of_ble_eq_true hd) _) hw hS)
theorem Dr.gl (i : Nat) {op : Op} {ty : TypeId} {pos : String} {af : Array Edge} {d j t : Nat} {b : Bool} {v : Value} {φ : World → Prop} (hi : ops[i]? = some ⟨some d, op, ty, pos, af, some (j, b)⟩) (hd : Nat.blt d n = true) (ht : (ops[j]?).bind (·.dst) = some t) (hv : look t ts = some (.bool b)) (hm : dI ops listed i = true) (hev : Ev P ts op v φ) (hφ : ∀ w, Holds E w l → φ w)
 (h : At E n D ((d, v) :: ts) l (eK P ops (bm Q) fuel (listed.setIfInBounds i true) ((i, φ) :: S))) : At E n D ts l (eK P ops (bm Q) (fuel + 1) listed S) := by
 simp only [dI, Bool.and_eq_true] at hm
 exact Dr.on i (_o := ⟨some d, op, ty, pos, af, some (j, b)⟩) hm.1.1 hi hd ht hv hm.1.2 hm.2 hev hφ h
theorem Dr.gp (i : Nat) {op : Op} {ty : TypeId} {pos : String} {af : Array Edge} {d j t : Nat} {b : Bool} {v : Value} (hi : ops[i]? = some ⟨some d, op, ty, pos, af, some (j, b)⟩) (hd : Nat.blt d n = true) (ht : (ops[j]?).bind (·.dst) = some t) (hv : look t ts = some (.bool b)) (hm : dI ops listed i = true) (hev : Ev P ts op v Any)
 (h : At E n D ((d, v) :: ts) l (eK P ops (bm Q) fuel (listed.setIfInBounds i true) S)) : At E n D ts l (eK P ops (bm Q) (fuel + 1) listed S) := fun a w f hw hS => by
 simp only [dI, Bool.and_eq_true] at hm
 have hS' : ∀ p ∈ (i, Any) :: S, p.2 w := fun p hp => by
  rcases List.mem_cons.1 hp with rfl | hp
  · trivial
  · exact hS p hp
 refine f9 hi (Region.noSelect_spec hm.1.1) (fun _ _ _ h => h.elim) fuel listed S a w (Region.free_spec hi hm.2) (by simpa using hm.1.2) (.inl ⟨by simp [Region.wanted, yielded, ht, f.get t _ hv], fun w hw => hev a w _ _ _ _ _ f.knows hw⟩) trivial hS ?_
 exact jC fuel _ S i _ w (h _ w (f.put d (Nat.le_of_ble_eq_true hd) v) hw hS)
end
section
variable {P : Program} {E : Env} {n : Nat} {D : List Deferred} {ts : List (Nat × Value)} {l : List HP} {ops : Array Oper} {Q : Exit → Act → World → Prop} {ty : TypeId} {pos : String} {af : Array Edge} {fuel : Nat} {listed : Array Bool} {S : List (Nat × (World → Prop))} {d j t : Nat} {b : Bool} {op : Op} {v : Value} {φ : World → Prop}
theorem dS (i : Nat) {o : Oper} {u : Value} (hi : ops[i]? = some o) (ho : o.dst = some d) (hd : Nat.blt d n = true) (hg : o.guard = some (j, b)) (ht : (ops[j]?).bind (·.dst) = some t) (hv : look t ts = some u) (hb : mU u b = true) (h : At E n D ((d, undef) :: ts) l (eK P ops (bm Q) fuel (listed.setIfInBounds i true) S)) (hm : dI ops listed i = true := by kernel_rfl) : At E n D ts l (eK P ops (bm Q) (fuel + 1) listed S) := Dr.skip i hi ho hd hg ht hv hb hm h
theorem dG (i : Nat) (hi : ops[i]? = some ⟨some d, op, ty, pos, af, some (j, b)⟩) (hd : Nat.blt d n = true) (ht : (ops[j]?).bind (·.dst) = some t) (hv : look t ts = some (.bool b)) (hev : Ev P ts op v Any) (h : At E n D ((d, v) :: ts) l (eK P ops (bm Q) fuel (listed.setIfInBounds i true) S)) (hm : dI ops listed i = true := by kernel_rfl) : At E n D ts l (eK P ops (bm Q) (fuel + 1) listed S) := Dr.gp i hi hd ht hv hm hev h
theorem dH (i : Nat) (hi : ops[i]? = some ⟨some d, op, ty, pos, af, some (j, b)⟩) (hd : Nat.blt d n = true) (ht : (ops[j]?).bind (·.dst) = some t) (hv : look t ts = some (.bool b)) (hev : Ev P ts op v φ) (hφ : ∀ w, Holds E w l → φ w) (h : At E n D ((d, v) :: ts) l (eK P ops (bm Q) fuel (listed.setIfInBounds i true) ((i, φ) :: S))) (hm : dI ops listed i = true := by kernel_rfl) : At E n D ts l (eK P ops (bm Q) (fuel + 1) listed S) := Dr.gl i hi hd ht hv hm hev hφ h
end
end Go.SL
