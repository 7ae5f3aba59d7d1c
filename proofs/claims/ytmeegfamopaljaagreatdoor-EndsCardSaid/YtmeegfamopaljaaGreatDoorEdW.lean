/- A host's calls, over a disk that is well. -/
import Derived.Test.YtmeegfamopaljaaGreatDoorEdV
import Derived.Test.YtmeegfamopaljaaGreatDoorEdJ
import Derived.Shelf.Small.Bits
import Derived.Shelf.Strconv.Atoi
import Derived.Shelf.Strconv.Itoa0
import Derived.Shelf.Strconv.Itoa1
import Derived.Shelf.LaysM
import Derived.Shelf.Strconv.Itoa2
import Derived.Shelf.Strconv.Itoa3
import Derived.Shelf.Sort.Plain
import Derived.Shelf.Strings.Prefix
import Derived.Shelf.Slices.In.SortNone
import Derived.Shelf.Slices.In.SortNone2
import Derived.Test.YtmeegfamopaljaaGreatDoorChecked
namespace Go.SL
open Go Go.RowKit
theorem m3 {E : Env} {n : Nat} {D : List Deferred} {ts : List (Nat × Value)} {p0 p1 p2 p3 p4 p5 : HP} {fr : List HP} {K : Act → World → Prop} (h : At E n D ts (p0 :: p1 :: p2 :: p3 :: p4 :: p5 :: fr) K) : At E n D ts ([p0, p1, p2, p3, p4, p5] ++ fr) K := h
theorem qx {E : Env} {n : Nat} {D : List Deferred} {ts : List (Nat × Value)} {p0 p1 p2 p3 p4 p5 p6 : HP} {fr : List HP} {K : Act → World → Prop} (h : At E n D ts (p0 :: p1 :: p2 :: p3 :: p4 :: p5 :: p6 :: fr) K) : At E n D ts ([p0, p1, p2, p3, p4, p5, p6] ++ fr) K := h
end Go.SL
namespace Go.Proofs.YtmeegfamopaljaaGreatDoor
open Go Go.RowKit Go.SL
abbrev bE (h d f : Nat) : HP := eJ h d (some ⟨f, 0, none⟩)
abbrev bW (h f e j d : Nat) (p : EA) (S : FK.En) (J : FK.Jn) (σ : FK.Dsk) : List HP := bE h d f :: cE f e j d p S J σ
abbrev cz (σ : FK.Dsk) (J : FK.Jn) (op n : Nat) : FK.Dsk := σ.logs J.n (cV (FK.frame (FK.aY op n)))
theorem jq {σ : FK.Dsk} (h : FK.Quiet σ) : ({ σ with left := -1, full := -1 } : FK.Dsk) = σ := h.rested
theorem qj {σ : FK.Dsk} (h : FK.Quiet σ) : σ.spent.rested = σ := h.rested
set_option maxRecDepth 10000 in
set_option maxHeartbeats 1000000 in
theorem ij {h f e j d : Nat} {p : EA} {S : FK.En} {J : FK.Jn} {σ : FK.Dsk} (hQ : FK.Quiet σ) (hq : S.queue = []) : Does Tryz.prog Good 24 [aL h, fo].toArray (bW h f e j d p S J σ) fun v m => v = .tuple #[jn 0 0 0 0, .bool false, .int .i64 0] ∧ m = bW h f e j d p S J σ := by
 refine Does.body Tryz.func24 Z Z fun E fr hE => ?_
 refine bV (At.seq (At.region (L.op Z (cc Z Z fun b3 => (L.op Z (aH (z := .agg #[.int .u64 0, .int .i64 0, .int .i64 0, .int .u64 0]) Z Z fun b4 => (L.as Z Z (L.as Z Z (L.nil (At.then (At.seq (At.seq (At.region (L.mv Z Z (aN Z Z (aE 1 Z Z Z (aX Z Z Z Z (L.pure Z (dg Z Z Z) (L.nil (At.then (aj Z ?_)))))))))))))))))))))
 refine At.skip (At.then (At.seq (At.region (L.mv Z Z (L.val Z (am (vs := bA (-1) (-1) 0 0) Z Z Z Z) (av Z) (L.op Z (ah Z Z Z hE (df (-1) (-1) 0 0) (aK (.tail (.tail .head)) (.tail (.tail (.tail (.tail (.tail .head)))))) ?_)))))))
 rintro v m ⟨rfl, rfl⟩
 refine aF ?_
 rw [jq hQ]
 refine At.ent (l' := dA f e j :: ap e p S :: aD j d J :: ak d σ :: bE h d f :: blk b4 55 (bo 0 0 0 0).toArray :: blk b3 41 (bA (-1) (-1) 0 0).toArray :: fr) (by show Ent (_ :: _ :: blk b4 55 (bo 0 0 0 0).toArray :: blk b3 41 (bA (-1) (-1) 0 0).toArray :: _) _; exact ao) ?_
 refine L.nil (At.then (At.seq (At.region (L.mv Z Z (aN Z Z (aE 1 Z Z Z (aX Z Z Z Z (L.op Z (ah Z Z Z hE (sO hq) (Ent.refl _) ?_)))))))))
 rintro v m ⟨rfl, rfl⟩
 refine dj (L.mv Z Z (L.ex Z Z Z (L.ex Z Z Z (L.ex Z Z Z (L.op Z (aH (z := .agg #[.int .u64 0, .int .i64 0, .int .i64 0, .int .u64 0]) Z Z fun b7 => ?_))))))
 refine L.op Z (aG Z (m := 4) (vs := bo 0 0 0 0) Z Z Z Z (by simp [Value.oneCell']) (by show 0 + 4 ≤ 4; omega) ?_)
 refine ax b7 (bo 0 0 0 0).toArray Z (L.as Z Z (L.as Z Z (L.nil (At.then (At.seq (At.ent (l' := bE h d f :: ak d σ :: dA f e j :: ap e p S :: aD j d J :: blk b7 55 (bo 0 0 0 0).toArray :: blk b4 55 (bo 0 0 0 0).toArray :: blk b3 41 (bA (-1) (-1) 0 0).toArray :: fr) ao (At.region (L.mv Z Z (L.val Z (am (vs := bA (-1) (-1) 0 0) Z Z Z Z) (av Z) (L.op Z (ah Z Z Z hE (dz (-1) (-1) 0 0 hQ.down) (Ent.refl _) ?_)))))))))))
 rintro v m ⟨rfl, rfl⟩
 refine aF ?_
 rw [hQ.rested]
 refine L.nil (At.then (At.seq (Dr.start Z (dL 0 Z Z (am (vs := bo 0 0 0 0) Z Z Z Z) (av Z) (dP 1 Z Z (ag Z) (dP 2 Z Z (ag Z) (dR 3 Z Z (ah Z Z Z hE fU (Ent.refl _) ?_))))))))
 rintro v m ⟨rfl, rfl⟩
 refine ay ?_
 refine Dr.kept [true] (by kernel_rfl) (Kept.cons (av Z) Kept.nil) ?_
 refine dR 4 Z Z (aG Z (m := 4) (vs := bo 0 0 0 0) Z Z Z Z (by simp [Value.oneCell']) (by show 0 + 4 ≤ 4; omega) ?_)
 refine Dr.kept [false] (by kernel_rfl) Kept.nil ?_
 refine dP 5 Z Z (az Z) (dP 6 Z Z (az Z) (dE (At.then (At.ret (ax b4 (bo 0 0 0 0).toArray Z ?_)))))
 refine ie (bW h f e j d p S J σ) Z (bU (vs := bo 0 0 0 0) Z Z Z Z (av Z)) (Res.tmp Z) (Res.tmp Z) ⟨rfl, rfl⟩ ?_
 show Ent _ (bE h d f :: dA f e j :: ap e p S :: aD j d J :: ak d σ :: fr)
 exact ao
set_option maxRecDepth 10000 in
set_option maxHeartbeats 1000000 in
theorem fi {h f e j d : Nat} {p : EA} {S : FK.En} {J : FK.Jn} {σ : FK.Dsk} (hS : FK.Ok S) (hJ : J.n < 1000000) (hb : J.broken = 0) (hr : Roomy σ) (hQ : FK.Quiet σ) {id k : Nat} {q : List FK.Pl} {R : FK.Rn} {s : FK.Sp} {nd : FK.Node} (hq : S.queue = ⟨id, (k : Int), 0⟩ :: q) (hR : S.getR id = some R) (hs : R.steps[k]? = some s) (hn : R.fl.nodes[k]? = some nd) (hsets : S.sets + 1 < 9223372036854775807) (htok : S.lastToken < 9223372036854775807) : Does Tryz.prog Good 24 [aL h, fo].toArray (bW h f e j d p S J σ) fun v m => v = .tuple #[jn id k (s.tries + 1) (S.lastToken + 1), .bool true, .int .i64 0] ∧ m = bW h f e j d p (S.hand ⟨id, (k : Int), 0⟩ q R s nd) J (cz σ J 2 0) := by
 have hadd := hQ.add hb (cV (FK.frame (FK.aY 2 0)))
 refine Does.body Tryz.func24 Z Z fun E fr hE => ?_
 refine bV (At.seq (At.region (L.op Z (cc Z Z fun b3 => (L.op Z (aH (z := .agg #[.int .u64 0, .int .i64 0, .int .i64 0, .int .u64 0]) Z Z fun b4 => (L.as Z Z (L.as Z Z (L.nil (At.then (At.seq (At.seq (At.region (L.mv Z Z (aN Z Z (aE 1 Z Z Z (aX Z Z Z Z (L.pure Z (dg Z Z Z) (L.nil (At.then (aj Z ?_)))))))))))))))))))))
 refine At.skip (At.then (At.seq (At.region (L.mv Z Z (L.val Z (am (vs := bA (-1) (-1) 0 0) Z Z Z Z) (av Z) (L.op Z (ah Z Z Z hE (df (-1) (-1) 0 0) (aK (.tail (.tail .head)) (.tail (.tail (.tail (.tail (.tail .head)))))) ?_)))))))
 rintro v m ⟨rfl, rfl⟩
 refine aF ?_
 rw [jq hQ]
 refine At.ent (l' := dA f e j :: ap e p S :: aD j d J :: ak d σ :: bE h d f :: blk b4 55 (bo 0 0 0 0).toArray :: blk b3 41 (bA (-1) (-1) 0 0).toArray :: fr) (by show Ent (_ :: _ :: blk b4 55 (bo 0 0 0 0).toArray :: blk b3 41 (bA (-1) (-1) 0 0).toArray :: _) _; exact ao) ?_
 refine L.nil (At.then (At.seq (At.region (L.mv Z Z (aN Z Z (aE 1 Z Z Z (aX Z Z Z Z (L.op Z (ah Z Z Z hE (sN hS hJ hr hq hR hs hn hsets htok) (Ent.refl _) ?_)))))))))
 rintro v m hv
 obtain ⟨rfl, rfl⟩ : v = .tuple #[jn id k (s.tries + 1) (S.lastToken + 1), .bool true, .nilIface] ∧ m = cE f e j d p (S.hand ⟨id, (k : Int), 0⟩ q R s nd) J (cz σ J 2 0).spent := by
  unfold la at hv
  rw [hadd] at hv
  rcases hv with ⟨_, h1, h2⟩ | ⟨h1, _⟩
  · exact ⟨h1, h2⟩
  · exact absurd Z h1
 refine dj (L.mv Z Z (L.ex Z Z Z (L.ex Z Z Z (L.ex Z Z Z (L.op Z (aH (z := .agg #[.int .u64 0, .int .i64 0, .int .i64 0, .int .u64 0]) Z Z fun b7 => ?_))))))
 refine L.op Z (aG Z (m := 4) (vs := bo id k (s.tries + 1) (S.lastToken + 1)) Z Z Z Z (by simp [Value.oneCell']) (by show 0 + 4 ≤ 4; omega) ?_)
 refine ax b7 (bo id k (s.tries + 1) (S.lastToken + 1)).toArray Z (L.as Z Z (L.as Z Z (L.nil (At.then (At.seq ?_)))))
 refine At.ent (l' := bE h d f :: ak d (cz σ J 2 0).spent :: dA f e j :: ap e p (S.hand ⟨id, (k : Int), 0⟩ q R s nd) :: aD j d J :: blk b7 55 (bo id k (s.tries + 1) (S.lastToken + 1)).toArray :: blk b4 55 (bo 0 0 0 0).toArray :: blk b3 41 (bA (-1) (-1) 0 0).toArray :: fr) ao ?_
 refine At.region (L.mv Z Z (L.val Z (am (vs := bA (-1) (-1) 0 0) Z Z Z Z) (av Z) (L.op Z (ah Z Z Z hE (dz (σ := (cz σ J 2 0).spent) (-1) (-1) 0 0 hQ.down) (Ent.refl _) ?_))))
 rintro v m ⟨rfl, rfl⟩
 refine aF ?_
 rw [qj (hQ.logs _ _)]
 refine L.nil (At.then (At.seq (Dr.start Z (dL 0 Z Z (am (vs := bo id k (s.tries + 1) (S.lastToken + 1)) Z Z Z Z) (av Z) (dP 1 Z Z (ag Z) (dP 2 Z Z (ag Z) (dR 3 Z Z (ah Z Z Z hE fU (Ent.refl _) ?_))))))))
 rintro v m ⟨rfl, rfl⟩
 refine ay ?_
 refine Dr.kept [true] (by kernel_rfl) (Kept.cons (av Z) Kept.nil) ?_
 refine dR 4 Z Z (aG Z (m := 4) (vs := bo id k (s.tries + 1) (S.lastToken + 1)) Z Z Z Z (by simp [Value.oneCell']) (by show 0 + 4 ≤ 4; omega) ?_)
 refine Dr.kept [false] (by kernel_rfl) Kept.nil ?_
 refine dP 5 Z Z (az Z) (dP 6 Z Z (az Z) (dE (At.then (At.ret (ax b4 (bo id k (s.tries + 1) (S.lastToken + 1)).toArray Z ?_)))))
 refine ie (bW h f e j d p (S.hand ⟨id, (k : Int), 0⟩ q R s nd) J (cz σ J 2 0)) Z (bU (vs := bo id k (s.tries + 1) (S.lastToken + 1)) Z Z Z Z (av Z)) (Res.tmp Z) (Res.tmp Z) ⟨rfl, rfl⟩ ?_
 show Ent _ (bE h d f :: dA f e j :: ap e p (S.hand ⟨id, (k : Int), 0⟩ q R s nd) :: aD j d J :: ak d (cz σ J 2 0) :: fr)
 exact ao
set_option maxRecDepth 10000 in
set_option maxHeartbeats 1000000 in
theorem xg {h f e j d n : Nat} {p : EA} {S : FK.En} {J : FK.Jn} {σ : FK.Dsk} {Q : Int → FK.En → FK.Jn → FK.Dsk → Prop} (hQ : FK.Quiet σ)
 (hC : Does Tryz.prog Good 56 [aL f, bc n].toArray (cE f e j d p S J σ) fun v m => ∃ c U J' σ', v = eR c ∧ σ'.down = false ∧ Q c U J' σ' ∧ m = cE f e j d p U J' σ') : Does Tryz.prog Good 25 [aL h, .int .i64 4, bc n, fo].toArray (bW h f e j d p S J σ) fun v m => ∃ c U J' σ', v = .int .i64 c ∧ Q c U J' σ' ∧ m = bW h f e j d p U J' σ'.rested := by
 refine Does.body Tryz.func25 Z Z fun E fr hE => ?_
 refine bV (At.seq (At.region (L.op Z (cc Z Z fun b7 => (L.as Z Z (L.nil (At.then (At.seq (At.seq (At.region (L.mv Z Z (aN Z Z (aE 1 Z Z Z (aX Z Z Z Z (L.pure Z (dg Z Z Z) (L.nil (At.then (aj Z (At.skip (At.then ?_))))))))))))))))))))
 refine At.seq (At.region (L.mv Z Z (L.val Z (am (vs := bA (-1) (-1) 0 0) Z Z Z Z) (av Z) (L.op Z (ah Z Z Z hE (df (-1) (-1) 0 0) (aK (.tail .head) (.tail (.tail (.tail (.tail .head))))) ?_)))))
 rintro v m ⟨rfl, rfl⟩
 refine aF ?_
 rw [jq hQ]
 refine At.ent (l' := dA f e j :: ap e p S :: aD j d J :: ak d σ :: bE h d f :: blk b7 41 (bA (-1) (-1) 0 0).toArray :: fr) (by show Ent (_ :: _ :: blk b7 41 (bA (-1) (-1) 0 0).toArray :: _) _; exact ao) ?_
 refine L.nil (At.then (At.seq (At.region (L.as Z Z (L.nil (At.then (At.seq (At.seq (At.region (L.mv Z Z (L.nil (At.then (At.block (At.seq (At.region (L.pure Z (aV Z Z Z) (L.as Z Z (L.nil (At.then ?_)))))))))))))))))))
 refine aj Z (At.seq (At.region (L.pure Z (aV Z Z Z) (L.as Z Z (L.nil (At.then (aR Z (At.region (L.mv Z Z (aN Z Z (aE 1 Z Z Z (aX Z Z Z Z (L.mv Z Z (L.op Z (ah Z Z Z hE hC (Ent.refl _) ?_)))))))))))))))
 rintro v m ⟨c, U, J', σ', rfl, hdn, hQ', rfl⟩
 refine dj (L.as Z Z (L.nil (al (At.then (At.seq (At.ent (l' := bE h d f :: ak d σ' :: dA f e j :: ap e p U :: aD j d J' :: blk b7 41 (bA (-1) (-1) 0 0).toArray :: fr) ao (At.region (L.mv Z Z (L.val Z (am (vs := bA (-1) (-1) 0 0) Z Z Z Z) (av Z) (L.op Z (ah Z Z Z hE (dz (-1) (-1) 0 0 hdn) (Ent.refl _) ?_)))))))))))
 rintro v m ⟨rfl, rfl⟩
 refine aF (L.nil (At.then (At.seq (At.region (L.mv Z Z (L.op Z (ah Z Z Z hE (ky c) (Ent.refl _) ?_)))))))
 rintro v m ⟨rfl, rfl⟩
 refine ay (L.as Z Z (L.nil (At.then (At.ret ?_))))
 refine aA (bW h f e j d p U J' σ'.rested) Z Z ⟨c, U, J', σ', rfl, hQ', rfl⟩ ?_
 show Ent _ (bE h d f :: dA f e j :: ap e p U :: aD j d J' :: ak d σ'.rested :: fr)
 exact ao
set_option maxRecDepth 10000 in
set_option maxHeartbeats 1000000 in
theorem xf {h f e j d n : Nat} {p : EA} {S : FK.En} {J : FK.Jn} {σ : FK.Dsk} {Q : Int → FK.En → FK.Jn → FK.Dsk → Prop} (hQ : FK.Quiet σ)
 (hC : Does Tryz.prog Good 57 [aL f, bc n].toArray (cE f e j d p S J σ) fun v m => ∃ c U J' σ', v = eR c ∧ σ'.down = false ∧ Q c U J' σ' ∧ m = cE f e j d p U J' σ') : Does Tryz.prog Good 25 [aL h, .int .i64 5, bc n, fo].toArray (bW h f e j d p S J σ) fun v m => ∃ c U J' σ', v = .int .i64 c ∧ Q c U J' σ' ∧ m = bW h f e j d p U J' σ'.rested := by
 refine Does.body Tryz.func25 Z Z fun E fr hE => ?_
 refine bV (At.seq (At.region (L.op Z (cc Z Z fun b7 => (L.as Z Z (L.nil (At.then (At.seq (At.seq (At.region (L.mv Z Z (aN Z Z (aE 1 Z Z Z (aX Z Z Z Z (L.pure Z (dg Z Z Z) (L.nil (At.then (aj Z (At.skip (At.then ?_))))))))))))))))))))
 refine At.seq (At.region (L.mv Z Z (L.val Z (am (vs := bA (-1) (-1) 0 0) Z Z Z Z) (av Z) (L.op Z (ah Z Z Z hE (df (-1) (-1) 0 0) (aK (.tail .head) (.tail (.tail (.tail (.tail .head))))) ?_)))))
 rintro v m ⟨rfl, rfl⟩
 refine aF ?_
 rw [jq hQ]
 refine At.ent (l' := dA f e j :: ap e p S :: aD j d J :: ak d σ :: bE h d f :: blk b7 41 (bA (-1) (-1) 0 0).toArray :: fr) (by show Ent (_ :: _ :: blk b7 41 (bA (-1) (-1) 0 0).toArray :: _) _; exact ao) ?_
 refine L.nil (At.then (At.seq (At.region (L.as Z Z (L.nil (At.then (At.seq (At.seq (At.region (L.mv Z Z (L.nil (At.then (At.block (At.seq (At.region (L.pure Z (aV Z Z Z) (L.as Z Z (L.nil (At.then ?_)))))))))))))))))))
 refine aj Z (At.seq (At.region (L.pure Z (aV Z Z Z) (L.as Z Z (L.nil (At.then (aj Z (At.seq (At.region (L.pure Z (aV Z Z Z) (L.as Z Z (L.nil (At.then (aR Z (At.region (L.mv Z Z (aN Z Z (aE 1 Z Z Z (aX Z Z Z Z ?_)))))))))))))))))))
 refine L.mv Z Z (L.op Z (ah Z Z Z hE hC (Ent.refl _) ?_))
 rintro v m ⟨c, U, J', σ', rfl, hdn, hQ', rfl⟩
 refine dj (L.as Z Z (L.nil (al (At.then (At.seq (At.ent (l' := bE h d f :: ak d σ' :: dA f e j :: ap e p U :: aD j d J' :: blk b7 41 (bA (-1) (-1) 0 0).toArray :: fr) ao (At.region (L.mv Z Z (L.val Z (am (vs := bA (-1) (-1) 0 0) Z Z Z Z) (av Z) (L.op Z (ah Z Z Z hE (dz (-1) (-1) 0 0 hdn) (Ent.refl _) ?_)))))))))))
 rintro v m ⟨rfl, rfl⟩
 refine aF (L.nil (At.then (At.seq (At.region (L.mv Z Z (L.op Z (ah Z Z Z hE (ky c) (Ent.refl _) ?_)))))))
 rintro v m ⟨rfl, rfl⟩
 refine ay (L.as Z Z (L.nil (At.then (At.ret ?_))))
 refine aA (bW h f e j d p U J' σ'.rested) Z Z ⟨c, U, J', σ', rfl, hQ', rfl⟩ ?_
 show Ent _ (bE h d f :: dA f e j :: ap e p U :: aD j d J' :: ak d σ'.rested :: fr)
 exact ao
set_option maxRecDepth 10000 in
set_option maxHeartbeats 1000000 in
theorem xe {h f e j d n : Nat} {p : EA} {S : FK.En} {J : FK.Jn} {σ : FK.Dsk} {Q : Int → FK.En → FK.Jn → FK.Dsk → Prop} (hQ : FK.Quiet σ)
 (hC : Does Tryz.prog Good 59 [aL f, bc n].toArray (cE f e j d p S J σ) fun v m => ∃ c U J' σ', v = eR c ∧ σ'.down = false ∧ Q c U J' σ' ∧ m = cE f e j d p U J' σ') : Does Tryz.prog Good 25 [aL h, .int .i64 7, bc n, fo].toArray (bW h f e j d p S J σ) fun v m => ∃ c U J' σ', v = .int .i64 c ∧ Q c U J' σ' ∧ m = bW h f e j d p U J' σ'.rested := by
 refine Does.body Tryz.func25 Z Z fun E fr hE => ?_
 refine bV (At.seq (At.region (L.op Z (cc Z Z fun b7 => (L.as Z Z (L.nil (At.then (At.seq (At.seq (At.region (L.mv Z Z (aN Z Z (aE 1 Z Z Z (aX Z Z Z Z (L.pure Z (dg Z Z Z) (L.nil (At.then (aj Z (At.skip (At.then ?_))))))))))))))))))))
 refine At.seq (At.region (L.mv Z Z (L.val Z (am (vs := bA (-1) (-1) 0 0) Z Z Z Z) (av Z) (L.op Z (ah Z Z Z hE (df (-1) (-1) 0 0) (aK (.tail .head) (.tail (.tail (.tail (.tail .head))))) ?_)))))
 rintro v m ⟨rfl, rfl⟩
 refine aF ?_
 rw [jq hQ]
 refine At.ent (l' := dA f e j :: ap e p S :: aD j d J :: ak d σ :: bE h d f :: blk b7 41 (bA (-1) (-1) 0 0).toArray :: fr) (by show Ent (_ :: _ :: blk b7 41 (bA (-1) (-1) 0 0).toArray :: _) _; exact ao) ?_
 refine L.nil (At.then (At.seq (At.region (L.as Z Z (L.nil (At.then (At.seq (At.seq (At.region (L.mv Z Z (L.nil (At.then (At.block (At.seq (At.region (L.pure Z (aV Z Z Z) (L.as Z Z (L.nil (At.then ?_)))))))))))))))))))
 refine aj Z (At.seq (At.region (L.pure Z (aV Z Z Z) (L.as Z Z (L.nil (At.then (aj Z (At.seq (At.region (L.pure Z (aV Z Z Z) (L.as Z Z (L.nil (At.then (aj Z (At.seq (At.region (L.pure Z (aV Z Z Z) (L.as Z Z (L.nil ?_)))))))))))))))))))
 refine At.then (aj Z (At.seq (At.region (L.pure Z (aV Z Z Z) (L.as Z Z (L.nil (At.then (aR Z (At.region (L.mv Z Z (aN Z Z (aE 1 Z Z Z (aX Z Z Z Z (L.mv Z Z (L.op Z (ah Z Z Z hE hC (Ent.refl _) ?_))))))))))))))))
 rintro v m ⟨c, U, J', σ', rfl, hdn, hQ', rfl⟩
 refine dj (L.as Z Z (L.nil (al (At.then (At.seq (At.ent (l' := bE h d f :: ak d σ' :: dA f e j :: ap e p U :: aD j d J' :: blk b7 41 (bA (-1) (-1) 0 0).toArray :: fr) ao (At.region (L.mv Z Z (L.val Z (am (vs := bA (-1) (-1) 0 0) Z Z Z Z) (av Z) (L.op Z (ah Z Z Z hE (dz (-1) (-1) 0 0 hdn) (Ent.refl _) ?_)))))))))))
 rintro v m ⟨rfl, rfl⟩
 refine aF (L.nil (At.then (At.seq (At.region (L.mv Z Z (L.op Z (ah Z Z Z hE (ky c) (Ent.refl _) ?_)))))))
 rintro v m ⟨rfl, rfl⟩
 refine ay (L.as Z Z (L.nil (At.then (At.ret ?_))))
 refine aA (bW h f e j d p U J' σ'.rested) Z Z ⟨c, U, J', σ', rfl, hQ', rfl⟩ ?_
 show Ent _ (bE h d f :: dA f e j :: ap e p U :: aD j d J' :: ak d σ'.rested :: fr)
 exact ao
theorem CallPost.well {f e j d : Nat} {p : EA} {S : FK.En} {J : FK.Jn} {σ : FK.Dsk} {op n : Nat} {Q : FK.En → Prop} (hQ : FK.Quiet σ) (hb : J.broken = 0) {v : Value} {m : List HP} (h : CallPost f e j d p S J σ op n Q v m) : ∃ (c : Int) (U : FK.En) (J' : FK.Jn) (σ' : FK.Dsk), v = eR c ∧ σ'.down = false ∧ (c = 0 ∧ Q U ∧ J' = J ∧ σ'.rested = cz σ J op n) ∧ m = cE f e j d p U J' σ' := by
 unfold CallPost at h
 rw [hQ.add hb] at h
 obtain ⟨rfl, U, h1, _, rfl⟩ := h
 exact ⟨0, U, J, (cz σ J op n).spent, rfl, (show (cz σ J op n).spent.down = false from hQ.down), ⟨rfl, h1 Z, rfl, qj (hQ.logs _ _)⟩, rfl⟩
theorem hO {h f e j d t : Nat} {p : EA} {S : FK.En} {J : FK.Jn} {σ : FK.Dsk} {P : FK.Pl} (hS : FK.Ok S) (hn : t < 18446744073709551616) (hJ : J.n < 1000000) (hb : J.broken = 0) (hr : Roomy σ) (hQ : FK.Quiet σ) (ht : (S.tasks.find? (·.1 == t)).map (·.2) = some P) (hends : S.ends < 9223372036854775807) : Does Tryz.prog Good 25 [aL h, .int .i64 4, bc t, fo].toArray (bW h f e j d p S J σ) fun v m => v = .int .i64 0 ∧ m = bW h f e j d p (S.complete t) J (cz σ J 4 t) := by
 refine (xg (Q := fun c U J' σ' => c = 0 ∧ U = S.complete t ∧ J' = J ∧ σ'.rested = cz σ J 4 t) hQ ((mL hS hn hJ hr ht hends).mono fun v m hv => ⟨m, hv.well hQ hb, Ent.refl _⟩)).mono ?_
 rintro v m ⟨c, U, J', σ', rfl, ⟨rfl, rfl, rfl, h4⟩, rfl⟩
 refine ⟨_, ⟨rfl, rfl⟩, ?_⟩
 rw [h4]
 exact Ent.refl _
theorem n9 {h f e j d t : Nat} {p : EA} {S : FK.En} {J : FK.Jn} {σ : FK.Dsk} {P : FK.Pl} (hS : FK.Ok S) (hn : t < 18446744073709551616) (hJ : J.n < 1000000) (hb : J.broken = 0) (hr : Roomy σ) (hQ : FK.Quiet σ) (ht : (S.tasks.find? (·.1 == t)).map (·.2) = some P) (hsets : S.sets + 1 < 9223372036854775807) (hends : S.ends < 9223372036854775807) : Does Tryz.prog Good 25 [aL h, .int .i64 5, bc t, fo].toArray (bW h f e j d p S J σ) fun v m => v = .int .i64 0 ∧ m = bW h f e j d p (S.fail t) J (cz σ J 5 t) := by
 refine (xf (Q := fun c U J' σ' => c = 0 ∧ U = S.fail t ∧ J' = J ∧ σ'.rested = cz σ J 5 t) hQ ((sS hS hn hJ hr ht hsets hends).mono fun v m hv => ⟨m, hv.well hQ hb, Ent.refl _⟩)).mono ?_
 rintro v m ⟨c, U, J', σ', rfl, ⟨rfl, rfl, rfl, h4⟩, rfl⟩
 refine ⟨_, ⟨rfl, rfl⟩, ?_⟩
 rw [h4]
 exact Ent.refl _
theorem n8 {h f e j d n : Nat} {p : EA} {S : FK.En} {J : FK.Jn} {σ : FK.Dsk} (hS : FK.Ok S) (hn : n < 18446744073709551616) (hJ : J.n < 1000000) (hb : J.broken = 0) (hr : Roomy σ) (hQ : FK.Quiet σ) (hsets : S.sets ≤ 4611686018427387904) (hends : S.ends ≤ 4611686018427387904) : Does Tryz.prog Good 25 [aL h, .int .i64 7, bc n, fo].toArray (bW h f e j d p S J σ) fun v m => v = .int .i64 0 ∧ ∃ U, FK.Ticks (S.later n) S U ∧ m = bW h f e j d p U J (cz σ J 7 n) := by
 refine (xe (Q := fun c U J' σ' => c = 0 ∧ FK.Ticks (S.later n) S U ∧ J' = J ∧ σ'.rested = cz σ J 7 n) hQ ((uu hS hn hJ hr hsets hends).mono fun v m hv => ⟨m, hv.well hQ hb, Ent.refl _⟩)).mono ?_
 rintro v m ⟨c, U, J', σ', rfl, ⟨rfl, h2, rfl, h4⟩, rfl⟩
 refine ⟨_, ⟨rfl, U, h2, rfl⟩, ?_⟩
 rw [h4]
 exact Ent.refl _
set_option maxRecDepth 10000 in
set_option maxHeartbeats 1000000 in
theorem jf {h f e j d : Nat} {p : EA} {S : FK.En} {J : FK.Jn} {σ : FK.Dsk} {id : Nat} {R : FK.Rn} (hS : FK.Ok S) (hR : S.getR id = some R) : Does Tryz.prog Good 26 [aL h, bc id].toArray (bW h f e j d p S J σ) fun v m => ∃ A2 c2 A3 c3, v = .tuple #[.agg (cB id R.state (.slice A2 R.steps.length c2) (.slice A3 R.steps.length c3)).toArray, .int .i64 0] ∧ m = bh (.slice A2 R.steps.length c2) (R.steps.map (·.state)) :: bh (.slice A3 R.steps.length c3) (R.steps.map (·.tries)) :: bW h f e j d p S J σ := by
 refine Does.body Tryz.func26 Z Z fun E fr hE => ?_
 refine bV (At.seq (At.region (L.op Z (aH (z := .agg #[.int .u64 0, .int .i64 0, .slice none 0 0, .slice none 0 0]) Z Z fun b4 => (L.as Z Z (L.nil (At.then (At.seq (At.seq (At.region (L.mv Z Z (aN Z Z (aE 1 Z Z Z (aX Z Z Z Z (L.pure Z (dg Z Z Z) (L.nil (At.then (aj Z (At.skip (At.then ?_))))))))))))))))))))
 refine At.seq ?_
 refine At.ent (l' := dA f e j :: ap e p S :: aD j d J :: ak d σ :: bE h d f :: blk b4 62 (cB 0 0 (.slice none 0 0) (.slice none 0 0)).toArray :: fr) (by show Ent (blk b4 62 (cB 0 0 (.slice none 0 0) (.slice none 0 0)).toArray :: _) _; exact ao) ?_
 refine At.region (L.mv Z Z (aN Z Z (aE 1 Z Z Z (aX Z Z Z Z (L.mv Z Z (L.op Z (ah Z Z Z hE (qN hS hR) (Ent.refl _) ?_)))))))
 rintro v m ⟨A2, c2, A3, c3, rfl, rfl⟩
 refine m3 (L.mv Z Z (L.ex Z Z Z (L.ex Z Z Z (L.op Z (aH (z := .agg #[.int .u64 0, .int .i64 0, .slice none 0 0, .slice none 0 0]) Z Z fun b6 => ?_)))))
 refine L.op Z (aG Z (m := 4) (vs := cB id R.state (.slice A2 R.steps.length c2) (.slice A3 R.steps.length c3)) Z Z Z Z (by simp [Value.oneCell']) (by show 0 + 4 ≤ 4; omega) ?_)
 refine ax b6 (cB id R.state (.slice A2 R.steps.length c2) (.slice A3 R.steps.length c3)).toArray Z (L.as Z Z (L.nil (At.then (At.seq (Dr.start Z (dL 0 Z Z (am (vs := cB id R.state (.slice A2 R.steps.length c2) (.slice A3 R.steps.length c3)) Z Z Z Z) (av Z) (dP 1 Z Z (ag Z) (dR 2 Z Z (ah Z Z Z hE fU (Ent.refl _) ?_)))))))))
 rintro v m ⟨rfl, rfl⟩
 refine ay ?_
 refine Dr.kept [true] (by kernel_rfl) (Kept.cons (av Z) Kept.nil) ?_
 refine dR 3 Z Z (aG Z (m := 4) (vs := cB id R.state (.slice A2 R.steps.length c2) (.slice A3 R.steps.length c3)) Z Z Z Z (by simp [Value.oneCell']) (by show 0 + 4 ≤ 4; omega) ?_)
 refine Dr.kept [false] (by kernel_rfl) Kept.nil ?_
 refine dP 4 Z Z (az Z) (dE (At.then (At.ret (ax b4 (cB id R.state (.slice A2 R.steps.length c2) (.slice A3 R.steps.length c3)).toArray Z ?_))))
 refine eW (bh (.slice A2 R.steps.length c2) (R.steps.map (·.state)) :: bh (.slice A3 R.steps.length c3) (R.steps.map (·.tries)) :: bW h f e j d p S J σ) Z (bU (vs := cB id R.state (.slice A2 R.steps.length c2) (.slice A3 R.steps.length c3)) Z Z Z Z (av Z)) (Res.tmp Z) ⟨A2, c2, A3, c3, rfl, rfl⟩ ?_
 show Ent _ (bh _ _ :: bh _ _ :: bE h d f :: dA f e j :: ap e p S :: aD j d J :: ak d σ :: fr)
 exact ao
end Go.Proofs.YtmeegfamopaljaaGreatDoor

namespace Go.SL
open Go Go.RowKit
section
variable {P : Program} {G : Env → Prop}
theorem DoesD.plain {f : FuncId} {fn : Func} {c : Code} {args : List Value} {u : FrameMode} {pre : List HP} {R : List HP → Prop} (hf : P.funcs[f]? = some fn) (hb : fn.body = some c) (hn : Nat.ble args.length fn.ntmps = true)
 (h : ∀ E fr, G E → At E fn.ntmps [] (dU 0 args) (pre ++ fr) (c.wp P (Ends P fn E fr fun v m => v = .tuple #[] ∧ R m))) : DoesD P G f args.toArray u u pre R := by
 intro E w fr hE hw
 refine callsD_of_wpS hf hb fun c₀ cs hc => ?_
 have hfit : Fits fn.ntmps [] (dU 0 args) { tmps := args.toArray ++ Array.replicate (fn.ntmps - args.toArray.size) undef, defers := [] } := by
  refine ⟨?_, rfl, ?_⟩
  · have := Nat.le_of_ble_eq_true hn
    simp; omega
  · intro i v hi
    obtain ⟨_, h2⟩ := dN args 0 i v hi
    rw [Nat.sub_zero] at h2
    have hlt : i < args.length := (List.getElem?_eq_some_iff.1 h2).1
    simp [Array.getElem?_append, hlt, (List.getElem?_eq_some_iff.1 h2).2]
 have hk := h E fr hE _ w hfit hw
 refine wpS_of_wp (Code.wp_mono ?_ hk)
 intro e a w' hq
 cases e with
 | normal => exact let ⟨h1, v, h2, v', m, h3, ⟨h4, h5⟩, h6⟩ := hq; ⟨h1, u, by cases c₀; simp_all, v, h2, by rw [h3, h4], rfl, m, h5, h6⟩
 | ret => exact let ⟨h1, v, h2, v', m, h3, ⟨h4, h5⟩, h6⟩ := hq; ⟨h1, u, by cases c₀; simp_all, v, h2, by rw [h3, h4], rfl, m, h5, h6⟩
 | panic c => exact let ⟨_, v', m, h3, _⟩ := hq; by cases h3
 | exit _ => exact hq.elim
 | goto _ => exact hq.elim
 | outgrown => exact let ⟨v', m, h3, _⟩ := hq; by cases h3
end
end Go.SL

namespace Go.Proofs
open Go.Shelf
open Go.RowKit in
open Go.RowKit in
def l4 : Go.Shelf.Ren := ⟨fun | 192 => 333 | 190 => 336 | 125 => 247 | 258 => 337 | 128 => 274 | 129 => 227 | 302 => 338 | 303 => 339 | 304 => 340 | 305 => 341 | 306 => 342 | 307 => 343 | 308 => 344 | 309 => 345 | 310 => 346 | 333 => 347 | 329 => 294 | 330 => 295 | 334 => 348 | 335 => 349 | 336 => 350 | 344 => 351 | n => n, fun | 31 => 278 | 0 => 0 | 9 => 9 | 3 => 3 | 46 => 87 | 51 => 312 | 53 => 51 | 4 => 4 | 183 => 395 | 182 => 394 | 131 => 357 | 5 => 5 | 218 => 417 | 222 => 219 | 228 => 428 | 229 => 200 | n => n, fun | n => n⟩
theorem lm : Go.Proofs.Lays.n192 Tryz.prog l4 := {
 mixed := by kernel_rfl
 f125 := Tryz.func247.trans (congrArg some (by kernel_rfl))
 f128 := Tryz.func274.trans (congrArg some (by kernel_rfl))
 f129 := Tryz.func227.trans (congrArg some (by kernel_rfl))
 f190 := Tryz.func336.trans (congrArg some (by kernel_rfl))
 f192 := Tryz.func333.trans (congrArg some (by kernel_rfl))
 f258 := Tryz.func337.trans (congrArg some (by kernel_rfl))
 f302 := Tryz.func338.trans (congrArg some (by kernel_rfl))
 f303 := Tryz.func339.trans (congrArg some (by kernel_rfl))
 f304 := Tryz.func340.trans (congrArg some (by kernel_rfl))
 f305 := Tryz.func341.trans (congrArg some (by kernel_rfl))
 f306 := Tryz.func342.trans (congrArg some (by kernel_rfl))
 f307 := Tryz.func343.trans (congrArg some (by kernel_rfl))
 f308 := Tryz.func344.trans (congrArg some (by kernel_rfl))
 f309 := Tryz.func345.trans (congrArg some (by kernel_rfl))
 f310 := Tryz.func346.trans (congrArg some (by kernel_rfl))
 f329 := Tryz.func294.trans (congrArg some (by kernel_rfl))
 f330 := Tryz.func295.trans (congrArg some (by kernel_rfl))
 f333 := Tryz.func347.trans (congrArg some (by kernel_rfl))
 f334 := Tryz.func348.trans (congrArg some (by kernel_rfl))
 f335 := Tryz.func349.trans (congrArg some (by kernel_rfl))
 f336 := Tryz.func350.trans (congrArg some (by kernel_rfl))
 f344 := Tryz.func351.trans (congrArg some (by kernel_rfl))
 t0 := Tryz.underlying0
 a0 := Tryz.isAgg0
 z0 := Tryz.sizeOf0
 v0 := Tryz.zeroValue0
 t3 := Tryz.underlying3
 a3 := Tryz.isAgg3
 z3 := Tryz.sizeOf3
 v3 := Tryz.zeroValue3
 t4 := Tryz.underlying4
 a4 := Tryz.isAgg4
 z4 := Tryz.sizeOf4
 v4 := Tryz.zeroValue4
 t5 := Tryz.underlying5
 a5 := Tryz.isAgg5
 z5 := Tryz.sizeOf5
 v5 := Tryz.zeroValue5
 t9 := Tryz.underlying9
 a9 := Tryz.isAgg9
 z9 := Tryz.sizeOf9
 v9 := Tryz.zeroValue9
 t31 := Tryz.underlying278
 a31 := Tryz.isAgg278
 z31 := Tryz.sizeOf278
 v31 := Tryz.zeroValue278
 t46 := Tryz.underlying87
 a46 := Tryz.isAgg87
 z46 := Tryz.sizeOf87
 v46 := Tryz.zeroValue87
 t51 := Tryz.underlying312
 a51 := Tryz.isAgg312
 z51 := Tryz.sizeOf312
 v51 := Tryz.zeroValue312
 t53 := Tryz.underlying51
 a53 := Tryz.isAgg51
 z53 := Tryz.sizeOf51
 v53 := Tryz.zeroValue51
 t131 := Tryz.underlying357
 a131 := Tryz.isAgg357
 z131 := Tryz.sizeOf357
 v131 := Tryz.zeroValue357
 t182 := Tryz.underlying394
 a182 := Tryz.isAgg394
 z182 := Tryz.sizeOf394
 v182 := Tryz.zeroValue394
 t183 := Tryz.underlying395
 a183 := Tryz.isAgg395
 z183 := Tryz.sizeOf395
 v183 := Tryz.zeroValue395
 t218 := Tryz.underlying417
 a218 := Tryz.isAgg417
 z218 := Tryz.sizeOf417
 v218 := Tryz.zeroValue417
 t222 := Tryz.underlying219
 a222 := Tryz.isAgg219
 z222 := Tryz.sizeOf219
 v222 := Tryz.zeroValue219
 t228 := Tryz.underlying428
 a228 := Tryz.isAgg428
 z228 := Tryz.sizeOf428
 v228 := Tryz.zeroValue428
 t229 := Tryz.underlying200
 a229 := Tryz.isAgg200
 z229 := Tryz.sizeOf200
 v229 := Tryz.zeroValue200 }
open Go.Sort Go.RowKit in
theorem ly (blk off cap : Nat) (ss : List (List UInt8)) (w : World) (hH : Holds encStr w blk off ss.toArray) (hblk : blk < w.heap.size) (hsz : ss.length < 4611686018427387904) :
 Calls Tryz.prog 333 #[.slice (some ⟨blk, off, none⟩) ss.length cap] w fun e w' =>
  e = .returned (.tuple #[]) ∧ ∃ n os, w' = grow (putRow encStr (Sort.ahead w n) blk off (ss.mergeSort fun x y => decide (x ≤ y)).toArray) os := Any.sort_Strings lm blk off cap ss w hH hblk hsz
open Go.RowKit Go.Lib in
open Go.RowKit Go.Lib in
def l5 : Go.Shelf.Ren := ⟨fun | 101 => 170 | 208 => 214 | 206 => 242 | n => n, fun | 9 => 9 | 4 => 4 | 3 => 3 | n => n, fun | n => n⟩
theorem qW : Go.Proofs.Lays.n101 Tryz.prog l5 := {
 mixed := by kernel_rfl
 f101 := Tryz.func170.trans (congrArg some (by kernel_rfl))
 f206 := Tryz.func242.trans (congrArg some (by kernel_rfl))
 f208 := Tryz.func214.trans (congrArg some (by kernel_rfl))
 t3 := Tryz.underlying3
 a3 := Tryz.isAgg3
 z3 := Tryz.sizeOf3
 v3 := Tryz.zeroValue3
 t4 := Tryz.underlying4
 a4 := Tryz.isAgg4
 z4 := Tryz.sizeOf4
 v4 := Tryz.zeroValue4
 t9 := Tryz.underlying9
 a9 := Tryz.isAgg9
 z9 := Tryz.sizeOf9
 v9 := Tryz.zeroValue9 }
open Go.RowKit Go.Lib in
theorem iT (s p : ByteArray) (w : World) :
 Calls Tryz.prog 170 #[.string s, .string p] w fun e w' => e = .returned (.string ⟨(Lib.trimPrefix s.data.toList p.data.toList).toArray⟩) ∧ w' = w := Any.strings_TrimPrefix qW s p w
open Go.RowKit Go.Sort in
open Go.RowKit Go.Sort in
theorem fD (p : Option Addr) (cap : Nat) (w : World) :
 Calls Tryz.prog 333 #[.slice p 0 cap] w fun e w' => e = .returned (.tuple #[]) ∧ w' = w := Any.sort_Strings_none lm p cap w
end Go.Proofs

namespace Go.Proofs.YtmeegfamopaljaaGreatDoor
open Go Go.RowKit Go.SL
variable {G : Env → Prop}
set_option maxRecDepth 10000 in
theorem oB {d : Nat} {σ : FK.Dsk} {name : ByteArray} (hd : σ.down = false) (hn : FK.dx σ.now name = none) : Does Tryz.prog G 328 [aL d, bG name].toArray [ak d σ] fun v m => v = .tuple #[.slice none 0 0, eR 9] ∧ m = [ak d σ] := by
 obtain ⟨dur, now, pend, left, full, down⟩ := σ
 simp only at hd hn
 subst hd
 refine Does.body Tryz.func328 Z Z fun E fr hE => ?_
 refine ai ?_
 refine At.ex .head fun q => bn ?_
 refine At.ent (l' := ko d q ⟨dur, now, pend, left, full, false⟩ fr) (Ent.refl _) ?_
 refine At.ex (.tail (.tail .head)) fun M => bn ?_
 refine At.ent (l' := HP.pure (Names q.P M now) :: bF bG q.mn (cC M) :: blk d 131 (eX q ⟨dur, now, pend, left, full, false⟩) :: aS q.md q.P dur :: cW q.P :: row 211 3 q.pv pend.length (fm pend) :: fr) (Ent.refl _) ?_
 refine At.pure .head fun hN => ?_
 have hM : FK.dx M name = none := by
  rcases hN.get name with h | ⟨b, s, _, h, _⟩
  · exact h.1
  · rw [h] at hn; cases hn
 refine At.seq (At.region (L.as Z Z (L.as Z Z (L.nil (At.then (At.seq (At.seq (At.region (L.mv Z Z (aN Z Z (aE 5 Z Z Z (aX Z Z Z Z (L.nil (At.then (aj Z (At.skip (At.then (At.seq (At.region ?_)))))))))))))))))))
 refine L.mv Z Z (aN Z Z (aE 1 Z Z Z (aX Z Z Z Z (L.mv Z Z ?_))))
 refine L.val Z (j7 (m := cC M) (a := name) Z gM Z Z Z (by rw [iF, hM]; rfl)) (fv .head) ?_
 refine L.mv Z Z (L.ex Z Z Z (L.ex Z Z Z (L.as Z Z (L.as Z Z (L.nil (At.then (At.seq (At.seq (At.region (L.mv Z Z (L.pure Z (ck Z Z) (L.nil (At.then (aR Z (At.seq (At.region (L.pure Z (cG Z Z Z) (L.as Z Z (L.as Z Z ?_)))))))))))))))))))
 refine L.nil (At.then (At.ret (aI ?_)))
 refine dd [ak d ⟨dur, now, pend, left, full, false⟩] rfl Z Z ⟨rfl, rfl⟩ ?_
 refine Ent.trans ?_ (bJ q ⟨dur, now, pend, left, full, false⟩)
 refine Ent.trans (bQ hN) ?_
 show Ent _ (_ :: aS q.md q.P dur :: aS q.mn q.P now :: cW q.P :: _ :: fr)
 exact ao
set_option maxRecDepth 10000 in
theorem oq {d : Nat} {σ : FK.Dsk} (hd : σ.down = false) (hn : σ.now = []) : Does Tryz.prog G 327 [aL d].toArray [ak d σ] fun v m => v = .tuple #[.slice none 0 0, .nilIface] ∧ m = [ak d σ] := by
 obtain ⟨dur, now, pend, left, full, down⟩ := σ
 simp only at hd hn
 subst hd; subst hn
 refine Does.body Tryz.func327 Z Z fun E fr hE => ?_
 refine ai ?_
 refine At.ex .head fun q => bn ?_
 refine At.ent (l' := ko d q ⟨dur, [], pend, left, full, false⟩ fr) (Ent.refl _) ?_
 refine At.ex (.tail (.tail .head)) fun M => bn ?_
 refine At.ent (l' := HP.pure (Names q.P M []) :: bF bG q.mn (cC M) :: blk d 131 (eX q ⟨dur, [], pend, left, full, false⟩) :: aS q.md q.P dur :: cW q.P :: row 211 3 q.pv pend.length (fm pend) :: fr) (Ent.refl _) ?_
 refine At.pure .head fun hN => ?_
 have hM : M = [] := by cases hN; rfl
 subst hM
 refine At.seq (At.region (L.as Z Z (L.as Z Z (L.nil (At.then (At.seq (At.seq (At.region (L.mv Z Z (aN Z Z (aE 5 Z Z Z (aX Z Z Z Z (L.nil (At.then (aj Z (At.skip (At.then (At.seq (At.region ?_)))))))))))))))))))
 refine L.as Z Z (L.nil (At.then (At.seq (At.seq (At.region (L.mv Z Z (aN Z Z (aE 1 Z Z Z (aX Z Z Z Z (L.op Z (kK (b := q.mn) (m := cC []) Z Z Z .head fun it => (L.nil (At.then (At.block ?_))))))))))))))
 refine aT (X := Nat) (fun _ => [(15, .pointer (some ⟨it, 0, none⟩)), (4, .slice none 0 0), (0, aL d)]) (fun _ => ct bG it q.mn (cC []) (cC []) none :: blk d 131 (eX q ⟨dur, [], pend, left, full, false⟩) :: aS q.md q.P dur :: cW q.P :: row 211 3 q.pv pend.length (fm pend) :: fr) (fun _ => True) (fun _ => 0) 0 trivial ⟨rfl, rfl, rfl, trivial⟩ (Ent.refl _) ?_
 intro k hk
 refine At.seq (At.region ?_)
 refine L.op Z (jr Z Z .head (fun _ => ?_) (fun j q hj => by simp at hj))
 refine L.ex Z Z Z (L.nil (At.then (At.seq (aj Z (At.exit (au (ar (an (At.then (At.seq (At.region (L.mv Z Z ?_))))))))))))
 refine L.op Z (dC Z Z Z hE (du (φ := fun _ => True) fun _ w _ _ _ => (fD none 0 w).mono fun _ _ ⟨h1, h2⟩ => ⟨h1, by rw [h2]; exact Below.refl _ _⟩) (fun _ _ => trivial) ?_)
 rintro v m ⟨rfl, rfl⟩
 refine ay (L.nil (At.then (At.seq (At.region (L.mv Z Z (L.as Z Z (L.as Z Z (L.nil (At.then (At.ret ?_))))))))))
 refine dd [ak d ⟨dur, [], pend, left, full, false⟩] rfl Z Z ⟨rfl, rfl⟩ ?_
 refine Ent.trans ?_ (bJ q ⟨dur, [], pend, left, full, false⟩)
 refine Ent.trans (Ent.ranged.trans (bQ hN)) ?_
 show Ent _ (_ :: aS q.md q.P dur :: aS q.mn q.P [] :: cW q.P :: _ :: fr)
 exact ao
end Go.Proofs.YtmeegfamopaljaaGreatDoor

namespace FK
def e0 : Dsk := ⟨[], [], [], -1, -1, false⟩
def e1 : Dsk := ⟨[], [], [], -2, -2, false⟩
def e2 : Dsk := ⟨[], [], [], -3, -3, false⟩
theorem A5 : e0.sync = (e1, 0) := by
 have h1 : Go.IntKind.i64.wrap (-2) = -2 := by decide
 simp [e0, e1, Dsk.sync, Dsk.writes, h1]
theorem A0 : e1.sync = (e2, 0) := by
 have h1 : Go.IntKind.i64.wrap (-3) = -3 := by decide
 simp [e1, e2, Dsk.sync, Dsk.writes, h1]
def J0 : Jn := ⟨0, false, 0⟩
theorem nH : Quiet e0 := ⟨rfl, rfl, rfl, rfl⟩
end FK
namespace Go.Proofs.YtmeegfamopaljaaGreatDoor
open Go Go.RowKit Go.SL
variable {G : Env → Prop}
abbrev mI (d : Nat) : Value := .iface 115 (aL d)
theorem BN {d : Nat} : Does Tryz.prog G 330 [aL d].toArray [ak d FK.e0] fun v m => v = .nilIface ∧ m = [ak d FK.e1] := by
 have := iL (G := G) (d := d) (σ := FK.e0) (by decide) (by decide)
 rw [FK.A5] at this
 exact this
theorem BM {d : Nat} : Does Tryz.prog G 330 [aL d].toArray [ak d FK.e1] fun v m => v = .nilIface ∧ m = [ak d FK.e2] := by
 have := iL (G := G) (d := d) (σ := FK.e1) (by decide) (by decide)
 rw [FK.A0] at this
 exact this
set_option maxRecDepth 10000 in
theorem nZ (b6 b7 : Nat) : DoesD Tryz.prog G 168 [aL b7, aL b6].toArray .returning .returning [blk b7 109 #[.nilIface]] fun m => m = [blk b7 109 #[.nilIface]] := by
 refine DoesD.plain Tryz.func168 Z Z fun E fr hE => ?_
 refine ai (At.seq (At.region (aX Z Z Z Z (L.pure Z (cb Z Z) (L.nil (At.then (aj Z (At.skip ?_))))))))
 exact aZ [_] rfl ⟨rfl, rfl⟩ (Ent.refl _)
set_option maxRecDepth 10000 in
set_option maxHeartbeats 2000000 in
theorem sG {d : Nat} (v1 v2 : Value) : Does Tryz.prog Good 107 [mI d, v1, v2].toArray [ak d FK.e0] fun v m => ∃ j, v = .tuple #[aL j, .nilIface] ∧ m = [aD j d FK.J0, ak d FK.e2] := by
 refine kC Tryz.func107 Z Z fun E fr hE => ?_
 refine ai (At.seq (At.region (L.op Z (aH (z := .pointer none) Z Z fun b6 => (L.op Z (aH (z := .nilIface) Z Z fun b7 => (L.nil (At.then (At.seq (At.region (L.mv Z Z (L.pure Z (bg (ps := [(0, .tmp 25)]) (vs := [mI d]) (cs := l9 d FK.J0) Z Z Z Z Z) (L.op Z (cc Z Z fun b27 => (ax b27 (l9 d FK.J0) Z ?_)))))))))))))))
 refine L.st Z Z Z Z (by first | decide | simp | (simp; omega)) ?_
 refine ax b6 #[aL b27] rfl (L.nil (At.then (At.seq (At.region ?_))))
 refine L.pure Z (ea Z Z) ?_
 refine L.op Z (qm Z (L.nil (At.then (At.seq (At.seq (At.region (L.mv Z Z ?_)))))))
 refine L.op Z (ef Z Z Z (rc ⟨d, 0, none⟩) Z hE BN (Ent.sel (.tail (.tail (.tail .head)))) ?_)
 rintro v m ⟨rfl, rfl⟩
 refine ai ?_
 refine L.st Z Z Z Z (by first | decide | simp | (simp; omega)) ?_
 refine ax b7 #[.nilIface] rfl (At.ent (l' := blk b7 109 #[.nilIface] :: blk b6 169 #[aL b27] :: aD b27 d FK.J0 :: ak d FK.e1 :: fr) ao (L.nil (At.then (At.seq (At.region (aX Z Z Z Z (L.pure Z (cb Z Z) (L.nil (At.then (aj Z (At.skip (At.then (At.seq (At.region (L.mv Z Z ?_)))))))))))))))
 refine L.op Z (ef Z Z Z (yw ⟨d, 0, none⟩) Z hE (oq Z Z) (Ent.sel (.tail (.tail (.tail .head)))) ?_)
 rintro v m ⟨rfl, rfl⟩
 refine ai (L.mv Z Z (L.ex Z Z Z (L.ex Z Z Z (L.as Z Z ?_))))
 refine L.st Z Z Z Z (by first | decide | simp | (simp; omega)) ?_
 refine ax b7 #[.nilIface] rfl (At.ent (l' := blk b7 109 #[.nilIface] :: blk b6 169 #[aL b27] :: aD b27 d FK.J0 :: ak d FK.e1 :: fr) ao (L.nil (At.then (At.seq (At.seq (At.region (aX Z Z Z Z (L.pure Z (cb Z Z) (L.nil (At.then (aj Z (At.skip (At.then (At.seq (At.region (L.as Z Z (L.nil (At.then (At.seq ?_)))))))))))))))))))
 refine At.seq (At.region (L.mv Z Z (L.pure Z (aP Z Z) (L.mv Z Z (L.nil (At.then (At.block ?_)))))))
 refine aT (X := Nat) (fun _ => [(42, .int .i64 0), (41, .int .i64 0), (9, .slice none 0 0), (8, .slice none 0 0), (7, aL b7), (6, aL b6), (2, v2), (1, v1), (0, mI d)]) (fun _ => blk b7 109 #[.nilIface] :: blk b6 169 #[aL b27] :: aD b27 d FK.J0 :: ak d FK.e1 :: fr) (fun _ => True) (fun _ => 0) 0 trivial ⟨rfl, rfl, rfl, rfl, rfl, rfl, rfl, rfl, rfl, trivial⟩ (Ent.refl _) ?_
 intro k hk
 refine At.seq (At.region (L.pure Z (bf Z Z Z) (L.nil (At.then (At.seq (aj Z (At.exit (au (ar (an (At.then (At.seq (Dr.start Z (dP 0 Z Z (ag Z) (dL 1 Z Z (aa Z Z) (ae Z) (dP 2 Z Z (aq Z) (dP 3 Z Z (ab (off := 1) Z Z) (dL 4 Z Z (aa Z Z) (ae Z) (dP 6 Z Z (qs Z) (dP 7 Z Z (ag Z) ?_))))))))))))))))))))
 refine dR 5 Z Z (ah Z Z Z hE (iO (kind := ⟨#[108, 111, 103]⟩) (n := 0) (by omega) (by decide)) (Ent.refl _) ?_)
 rintro v m ⟨rfl, rfl⟩
 refine ay ?_
 refine Dr.kept [false, true] (by kernel_rfl) (Kept.cons (ae Z) Kept.nil) ?_
 refine dR 8 Z Z (ef Z Z Z (Br ⟨d, 0, none⟩) Z hE (oB (name := FK.aW 0) Z Z) (Ent.sel (.tail (.tail (.tail .head)))) ?_)
 rintro v m ⟨rfl, rfl⟩
 refine ai ?_
 refine Dr.kept [true] (by kernel_rfl) (Kept.cons (ae Z) Kept.nil) ?_
 refine dP 9 Z Z (ag Z) (dP 10 Z Z (aU Z Z) (dP 11 Z Z (aU Z Z) (dP 12 Z Z (az Z) ?_)))
 refine dR 13 Z Z (bC Z Z Z Z Z (by show 0 < 1; omega) ?_)
 refine ax b7 #[.iface 48 (.int .i64 9)] rfl (At.ent (l' := blk b7 109 #[.iface 48 (.int .i64 9)] :: blk b6 169 #[aL b27] :: aD b27 d FK.J0 :: ak d FK.e1 :: fr) ao ?_)
 refine Dr.kept [false] (by kernel_rfl) Kept.nil ?_
 refine dE (At.then (At.seq (At.seq (At.region (aX Z Z Z Z (L.pure Z (fg Z Z) (L.mv Z Z (lA Z Z Z (aa Z Z) (ae Z) (lT Z Z Z (cG Z Z Z) (L.on Z Z Z (ah Z Z Z hE (rH 9) (Ent.refl _) ?_)))))))))))
 rintro v m ⟨rfl, rfl⟩
 refine ay (lT Z Z Z (ck Z Z) (L.pure Z (aM Z Z Z) (L.nil (At.then (aj Z (At.skip (At.then (At.seq (At.seq (At.region (L.mv Z Z (L.pure Z (oe Z Z Z) (L.nil (At.then (aj Z (At.skip (At.then (At.seq (At.block ?_)))))))))))))))))))
 refine aT (X := Nat) (fun _ => [(19, .slice none 0 0), (8, .slice none 0 0), (7, aL b7), (6, aL b6), (0, mI d)]) (fun _ => blk b7 109 #[.iface 48 (.int .i64 9)] :: blk b6 169 #[aL b27] :: aD b27 d FK.J0 :: ak d FK.e1 :: fr) (fun _ => True) (fun _ => 0) 0 trivial ⟨rfl, rfl, rfl, rfl, rfl, trivial⟩ (Ent.refl _) ?_
 intro k hk
 refine At.seq (At.seq (At.region (L.mv Z Z (L.pure Z (aP Z Z) (L.pure Z (dZ Z Z Z) (L.mv Z Z (L.off Z Z Z Z Z Z (L.off Z Z Z Z Z Z (L.off Z Z Z Z Z Z (L.off Z Z Z Z Z Z (L.off Z Z Z Z Z Z (L.pure Z (aM Z Z Z) (L.nil (At.then (aj Z (At.exit (au (ar (an (At.then (At.seq (At.seq ?_))))))))))))))))))))))
 refine At.region (L.mv Z Z (L.pure Z (aP Z Z) (L.mv Z Z (L.nil (At.then (At.block ?_))))))
 refine aT (X := Nat) (fun _ => [(142, .int .i64 0), (141, .int .i64 0), (7, aL b7), (6, aL b6), (0, mI d)]) (fun _ => blk b7 109 #[.iface 48 (.int .i64 9)] :: blk b6 169 #[aL b27] :: aD b27 d FK.J0 :: ak d FK.e1 :: fr) (fun _ => True) (fun _ => 0) 0 trivial ⟨rfl, rfl, rfl, rfl, rfl, trivial⟩ (Ent.refl _) ?_
 intro k hk
 refine At.seq (At.region (L.pure Z (bf Z Z Z) (L.nil (At.then (At.seq (aj Z (At.exit (au (ar (an (At.then (At.seq (At.region (L.mv Z Z ?_))))))))))))))
 refine L.op Z (ef Z Z Z (rc ⟨d, 0, none⟩) Z hE BM (Ent.sel (.tail (.tail (.tail .head)))) ?_)
 rintro v m ⟨rfl, rfl⟩
 refine ai ?_
 refine L.st Z Z Z Z (by first | decide | simp | (simp; omega)) ?_
 refine ax b7 #[.nilIface] rfl (L.nil (At.then (At.ret (At.leave (.inl Z) Z Z hE (nZ b6 b7) (Ent.refl _) ?_))))
 rintro m rfl
 refine ai ?_
 refine eW [aD b27 d FK.J0, ak d FK.e2] rfl (eF Z Z (ae Z)) (eF Z Z (ae Z)) ⟨b27, rfl, rfl⟩ ?_
 show Ent _ (aD b27 d FK.J0 :: ak d FK.e2 :: fr)
 exact ao
set_option maxRecDepth 10000 in
theorem pc {j d : Nat} {J : FK.Jn} : Does Tryz.prog G 111 [aL j].toArray [aD j d J] fun v m => v = .bool J.torn ∧ m = [aD j d J] := by
 refine Does.body Tryz.func111 Z Z fun E fr hE => ?_
 refine ai (At.seq (At.region (L.as Z Z (L.nil (At.then (At.seq (At.region (L.mv Z Z (aN Z Z (aE 2 Z Z Z (aX Z Z Z Z (L.as Z Z (L.nil (At.then (At.ret ?_)))))))))))))))
 exact aA [_] rfl Z ⟨rfl, rfl⟩ (Ent.refl _)
set_option maxRecDepth 10000 in
set_option maxHeartbeats 1000000 in
theorem sQ {d : Nat} : Does Tryz.prog Good 63 [mI d].toArray [ak d FK.e0] fun v m => ∃ f e j p, v = .tuple #[aL f, .nilIface] ∧ m = cE f e j d p FK.En.fresh FK.J0 FK.e2 := by
 refine Does.body Tryz.func63 Z Z fun E fr hE => ?_
 refine ai (At.seq (At.region (L.as Z Z (L.as Z Z (L.nil (At.then (At.seq (At.region (L.op Z (ah Z Z Z hE vr (Ent.refl _) ?_))))))))))
 rintro v m ⟨e, p, rfl, rfl⟩
 refine ai (L.pure Z (bg (ps := [(0, .tmp 8)]) (vs := [aL e]) (cs := #[aL e, .pointer none]) Z Z Z Z Z) (L.op Z (cc Z Z fun b10 => (L.op Z (aH (z := .pointer none) Z Z fun b4 => ?_)))))
 refine L.st Z Z Z Z (by first | decide | simp | (simp; omega)) ?_
 refine ax b4 #[aL b10] rfl (L.nil (At.then (At.seq (At.region (L.mv Z Z ?_)))))
 refine L.pure Z (ea Z Z) ?_
 refine aX Z Z Z Z ?_
 refine L.pure Z (ea Z Z) ?_
 refine L.op Z (ah Z Z Z hE (sG _ _) (Ent.sel (.tail (.tail (.tail .head)))) ?_)
 rintro v m ⟨j, rfl, rfl⟩
 refine aF (L.mv Z Z (L.ex Z Z Z (L.ex Z Z Z (L.as Z Z (L.as Z Z (L.nil (At.then (At.seq (At.seq (At.region (L.mv Z Z (L.pure Z (cb Z Z) (L.nil (At.then (aj Z (At.skip (At.then (At.seq (At.region ?_)))))))))))))))))))
 refine aX Z Z Z Z (L.mv Z Z (aN Z Z (aE 1 Z Z Z ?_)))
 refine L.st Z Z Z Z (by show 1 < 2; decide) ?_
 refine ax b10 #[aL e, aL j] rfl (L.nil (At.then (At.seq (At.seq (At.region (L.mv Z Z (L.op Z (ah Z Z Z hE pc (Ent.sel (.tail .head)) ?_))))))))
 rintro v m ⟨rfl, rfl⟩
 refine ai (L.nil (At.then (aj Z (At.skip (At.then (At.seq (At.region (aX Z Z Z Z (L.as Z Z (L.as Z Z (L.nil (At.then (At.ret ?_)))))))))))))
 refine dd (cE b10 e j d p FK.En.fresh FK.J0 FK.e2) Z Z Z ⟨b10, e, j, p, rfl, rfl⟩ ?_
 show Ent _ (dA b10 e j :: ap e p FK.En.fresh :: aD j d FK.J0 :: ak d FK.e2 :: fr)
 exact ao
set_option maxRecDepth 10000 in
set_option maxHeartbeats 1000000 in
theorem sL {h d : Nat} : Does Tryz.prog Good 28 [aL h, fo].toArray [eJ h d none, ak d FK.e0] fun v m => v = .int .i64 0 ∧ ∃ f e j p, m = bW h f e j d p FK.En.fresh FK.J0 FK.e0 := by
 refine Does.body Tryz.func28 Z Z fun E fr hE => ?_
 refine aF (At.seq (At.region (L.op Z (cc Z Z fun b3 => (L.as Z Z (L.nil (At.then (At.seq (At.region (L.mv Z Z (L.val Z (am (vs := bA (-1) (-1) 0 0) Z Z Z Z) (av Z) (L.op Z (ah Z Z Z hE (df (-1) (-1) 0 0) (aK (.tail .head) (.tail .head)) ?_)))))))))))))
 rintro v m ⟨rfl, rfl⟩
 refine aF ?_
 rw [jq FK.nH]
 refine At.ent (l' := eJ h d none :: ak d FK.e0 :: blk b3 41 (bA (-1) (-1) 0 0).toArray :: fr) (by show Ent (_ :: _ :: blk b3 41 (bA (-1) (-1) 0 0).toArray :: _) _; exact ao) ?_
 refine L.nil (At.then (At.seq (At.region (L.mv Z Z (aN Z Z (aE 0 Z Z Z (aX Z Z Z Z (L.pure Z (cG Z Z Z) (L.op Z (ah Z Z Z hE sQ (Ent.sel (.tail .head)) ?_))))))))))
 rintro v m ⟨f, e, j, p, rfl, rfl⟩
 refine dj (L.mv Z Z (L.ex Z Z Z (L.ex Z Z Z (L.as Z Z (L.as Z Z (L.nil (At.then (At.seq (At.region (L.mv Z Z (L.mv Z Z (aN Z Z (aE 1 Z Z Z ?_)))))))))))))
 refine L.st Z Z Z Z (by first | decide | simp | (simp; omega)) ?_
 refine ax h #[aL d, aL f] rfl (L.nil (At.then (At.seq (At.seq (At.region (L.mv Z Z (L.pure Z (cb Z Z) (L.nil (At.then (aj Z (At.skip (At.then (At.seq (At.ent (l' := bE h d f :: ak d FK.e2 :: dA f e j :: ap e p FK.En.fresh :: aD j d FK.J0 :: blk b3 41 (bA (-1) (-1) 0 0).toArray :: fr) ao (At.region (L.mv Z Z (L.val Z (am (vs := bA (-1) (-1) 0 0) Z Z Z Z) (av Z) (L.op Z (ah Z Z Z hE (dz (σ := FK.e2) (-1) (-1) 0 0 Z) (Ent.refl _) ?_)))))))))))))))))))
 rintro v m ⟨rfl, rfl⟩
 refine aF ?_
 rw [show FK.e2.rested = FK.e0 from rfl]
 refine L.nil (At.then (At.seq (At.region (L.mv Z Z (L.op Z (ah Z Z Z hE fU (Ent.refl _) ?_))))))
 rintro v m ⟨rfl, rfl⟩
 refine ay (L.as Z Z (L.nil (At.then (At.ret ?_))))
 refine aA (bW h f e j d p FK.En.fresh FK.J0 FK.e0) Z Z ⟨rfl, f, e, j, p, rfl⟩ ?_
 show Ent _ (bE h d f :: dA f e j :: ap e p FK.En.fresh :: aD j d FK.J0 :: ak d FK.e0 :: fr)
 exact ao
end Go.Proofs.YtmeegfamopaljaaGreatDoor

namespace FK
open Go.Proofs.YtmeegfamopaljaaGreatDoor (cV)
def bH (l : List (List UInt8)) : List UInt8 := l.flatMap frame
theorem mw (l : List (List UInt8)) (b : List UInt8) : bH (l ++ [b]) = bH l ++ frame b := by
 unfold bH
 rw [List.flatMap_append]
 simp
theorem my (l : List (List UInt8)) (b : List UInt8) : bH (b :: l) = frame b ++ bH l := by
 unfold bH
 rw [List.flatMap_cons]
theorem xj (b : List UInt8) : 4 ≤ (frame b).length := by
 unfold frame fF
 simp only [List.length_append, List.length_cons, List.length_nil]
 omega
def cY (l : List (List UInt8)) (k : Int) : Dsk := ⟨[(aW 0, cV (bH l))], [(aW 0, cV (bH l))], [], -k, -k, false⟩
theorem Al (a b : List UInt8) : cV (a ++ b) = cV a ++ cV b := by
 unfold cV
 refine ByteArray.ext ?_
 simp
theorem rE (l : List (List UInt8)) (b : List UInt8) (k : Int) : (cY l k).logs 0 (cV (frame b)) = cY (l ++ [b]) k := by
 have h : cP [(aW 0, cV (bH l))] ⟨2, aW 0, cV (frame b)⟩ = [(aW 0, cV (bH (l ++ [b])))] := by
  rw [mw, Al]
  have e : (aW 0 == aW 0) = true := (Go.MapKept.bytes_beq _ _).2 rfl
  simp [cP, fI, dx, List.findIdx?_cons, e]
 unfold Dsk.logs cY
 simp only [h]
theorem Ba (b : List UInt8) : e0.logs 0 (cV (frame b)) = cY [b] 1 := by
 unfold Dsk.logs cY e0 bH
 simp [cP, fI, dx]
theorem gD (l : List (List UInt8)) : Quiet (cY l 1) := ⟨rfl, rfl, rfl, rfl⟩
theorem wY (l : List (List UInt8)) : (cY l 1).sync = (cY l 2, 0) := by
 have h1 : Go.IntKind.i64.wrap (-2) = -2 := by decide
 simp [cY, Dsk.sync, Dsk.writes, h1]
theorem wX (l : List (List UInt8)) : (cY l 2).sync = (cY l 3, 0) := by
 have h1 : Go.IntKind.i64.wrap (-3) = -3 := by decide
 simp [cY, Dsk.sync, Dsk.writes, h1]
theorem qo (l : List (List UInt8)) (k : Int) : kD (cY l k).now = (bH l).length ∧ kD (cY l k).dur = (bH l).length := by
 have e : (cV (bH l)).size = (bH l).length := by
  show (bH l).toArray.size = _
  simp
 simp [cY, kD, e]
inductive Reds : En → List (List UInt8) → En → Prop
 | nil {S : En} : Reds S [] S
 | cons {S S' U : En} {b : List UInt8} {l : List (List UInt8)} : Fine S → b.length ≤ 1000000001 → Redo S b S' → Reds S' l U → Reds S (b :: l) U
theorem Reds.snoc {S U V : En} {b : List UInt8} {l : List (List UInt8)} (h : Reds S l U) (hf : Fine U) (hb : b.length ≤ 1000000001) (hr : Redo U b V) : Reds S (l ++ [b]) V := by
 induction h with
 | nil => exact .cons hf hb hr .nil
 | cons a1 a2 a3 _ ih => exact .cons a1 a2 a3 (ih hf hr)
end FK
namespace Go.Proofs.YtmeegfamopaljaaGreatDoor
open Go Go.RowKit Go.SL
theorem wy {f e : Nat} {jv : Value} {p : EA} {S S' : FK.En} {b : List UInt8} {pb : HP} {A : Option Addr} {c : Nat} (hF : FK.Fine S) (h : FK.Redo S b S') (hp : Reads pb A b) (hc : b.length ≤ c) :
 Does Tryz.prog Good 110 [aL f, .slice A b.length c].toArray [gj f e jv, ap e p S, pb] fun v m => v = .tuple #[] ∧ ∃ p', m = [gj f e jv, ap e p' S', pb] := by
 have a1 := hF.sets
 have a2 := hF.ends
 have a3 := hF.tok
 cases h with
 | submit hd hf hl hc' hu =>
  exact (tW hF hp hc hl hd hf).mono fun v m ⟨hv, S0, p', h0, hm⟩ => ⟨m, ⟨hv, p', by rw [hm, hu _ h0]⟩, Ent.refl _⟩
 | poll hq hR hs hn =>
  exact (fc (op := 2) (Q := fun U => U = _) (by omega) (by omega) (by omega) hp hc (zK ((vk hF.ok hq hR hs hn (by omega) (by omega)).mono fun v m hv => ⟨m, ⟨⟨v, rfl⟩, _, rfl, hv.2⟩, Ent.refl _⟩))).mono fun v m ⟨hv, U, hU, hm⟩ => ⟨m, ⟨hv, p, by rw [hm, hU]⟩, Ent.refl _⟩
 | beat hlt ht hR hn =>
  exact (fc (op := 3) (Q := fun U => U = _) (by omega) (by omega) hlt hp hc (zJ ((Bi hF.ok ht hR hn (by omega)).mono fun v m hv => ⟨m, ⟨hv.1, _, rfl, hv.2⟩, Ent.refl _⟩))).mono fun v m ⟨hv, U, hU, hm⟩ => ⟨m, ⟨hv, p, by rw [hm, hU]⟩, Ent.refl _⟩
 | complete hlt ht =>
  exact (fc (op := 4) (Q := fun U => U = _) (by omega) (by omega) hlt hp hc (rS ((mF hF.ok ht (by omega)).mono fun v m hv => ⟨m, ⟨hv.1, _, rfl, hv.2⟩, Ent.refl _⟩))).mono fun v m ⟨hv, U, hU, hm⟩ => ⟨m, ⟨hv, p, by rw [hm, hU]⟩, Ent.refl _⟩
 | fail hlt ht =>
  exact (fc (op := 5) (Q := fun U => U = _) (by omega) (by omega) hlt hp hc (rR ((vC hF.ok ht (by omega) (by omega)).mono fun v m hv => ⟨m, ⟨hv.1, _, rfl, hv.2⟩, Ent.refl _⟩))).mono fun v m ⟨hv, U, hU, hm⟩ => ⟨m, ⟨hv, p, by rw [hm, hU]⟩, Ent.refl _⟩
 | cancel hlt hR =>
  exact (fc (op := 6) (Q := fun U => U = _) (by omega) (by omega) hlt hp hc (zI ((xD hF.ok hR (by omega)).mono fun v m hv => ⟨m, ⟨hv.1, _, rfl, hv.2⟩, Ent.refl _⟩))).mono fun v m ⟨hv, U, hU, hm⟩ => ⟨m, ⟨hv, p, by rw [hm, hU]⟩, Ent.refl _⟩
 | tick hlt ht =>
  exact (fc (op := 7) (Q := fun U => U = _) (by omega) (by omega) hlt hp hc (rQ ((vd hF.ok hlt a1 a2).mono fun v m ⟨h1, U, h2, h3⟩ => ⟨m, ⟨h1, U, h2.unique ht, h3⟩, Ent.refl _⟩))).mono fun v m ⟨hv, U, hU, hm⟩ => ⟨m, ⟨hv, p, by rw [hm, hU]⟩, Ent.refl _⟩
 | seed hlt =>
  exact (fc (op := 8) (Q := fun U => U = _) (by omega) (by omega) hlt hp hc (zH ((wj _).mono fun v m hv => ⟨m, ⟨hv.1, _, rfl, hv.2⟩, Ent.refl _⟩))).mono fun v m ⟨hv, U, hU, hm⟩ => ⟨m, ⟨hv, p, by rw [hm, hU]⟩, Ent.refl _⟩
end Go.Proofs.YtmeegfamopaljaaGreatDoor
