/- slices.Grow from nothing, slices.Concat of two. -/
import Derived.Test.YtmeegfamopaljaaGreatDoorEdR
import Derived.Test.YtmeegfamopaljaaGreatDoorEdT
import Derived.Test.YtmeegfamopaljaaGreatDoorEdI
import Derived.Test.YtmeegfamopaljaaGreatDoorEdK
import Derived.Test.YtmeegfamopaljaaGreatDoorEdL
namespace Go.Proofs.YtmeegfamopaljaaGreatDoor
open Go Go.RowKit Go.SL
variable {G : Env → Prop}
set_option maxRecDepth 10000 in
theorem xi {k : Nat} (h0 : 0 < k) (hm : k ≤ 1099511627776) : Does Tryz.prog G 157 [.slice none 0 0, .int .i64 k].toArray [] fun v m => m = [bM v []] := by
 refine Does.body Tryz.func157 Z Z fun E fr hE => ?_
 refine ay (At.seq (At.region (L.as Z Z (L.nil (At.then (At.seq (At.seq (At.region (L.mv Z Z ?_)))))))))
 refine L.pure Z (bf (r := false) Z Z (by simp)) ?_
 refine L.nil (At.then (aj Z (At.skip (At.then (At.seq (At.seq (At.region (L.mv Z Z (L.mv Z Z (L.pure Z (vF Z Z) (L.mv Z Z (L.pure Z (aP Z Z) ?_))))))))))))
 refine L.pure Z (eQ (r := 0) Z Z (by decide)) ?_
 refine L.pure Z (eQ (r := (k : Int)) Z Z (by rw [cT (by omega)]; omega)) ?_
 refine L.as Z Z (L.nil (At.then (At.seq (At.region (L.mv Z Z ?_)))))
 refine L.pure Z (dZ (r := true) Z Z (by simp; omega)) ?_
 refine L.nil (At.then (aR Z (At.region (L.mv Z Z (L.mv Z Z (L.pure Z (vF Z Z) ?_))))))
 refine L.pure Z (evAs (v' := .slice none 0 0) (cM (z := 1) (a := 0) (b := 0) Z Z Z Z ⟨_, rfl⟩ (Nat.le_refl _) (Nat.le_refl _)) Z) ?_
 refine L.mv Z Z ?_
 refine L.op Z (B1 Z Z Z gS Z Z Z h0 (by unfold maxLen; omega) (by omega) fun b22 cap22 hc22 => ?_)
 refine L.mv Z Z (L.pure Z (aP Z Z) ?_)
 refine L.pure Z (evAs (v' := .slice (some ⟨b22, 0, none⟩) 0 cap22) (cM (z := 1) (a := 0) (b := 0) Z Z Z Z ⟨_, rfl⟩ (Nat.le_refl _) (Nat.zero_le _)) (by simp only [Nat.sub_zero]; split <;> rfl)) ?_
 refine L.as Z Z (L.nil (At.then (At.seq (At.region (L.mv Z Z (L.as Z Z (L.nil (At.then (At.ret ?_)))))))))
 exact aA [_] rfl Z Z (Ent.refl _)
def e7 (a b : List UInt8) (k : Nat) : List UInt8 := if k = 0 then [] else if k = 1 then a else a ++ b
set_option maxRecDepth 10000 in
set_option maxHeartbeats 1000000 in
theorem s3 {g : Nat} {A1 A2 : Option Addr} {bs1 bs2 : List UInt8} {p1 p2 : HP} (c1 c2 : Nat) (hp1 : Reads p1 A1 bs1) (hA1 : A1 = none → bs1 = []) (hp2 : Reads p2 A2 bs2) (hA2 : A2 = none → bs2 = []) (h0 : 0 < bs1.length + bs2.length) (hl : bs1.length + bs2.length ≤ 1099511627776) :
 Does Tryz.prog G 96 [.slice (some ⟨g, 0, none⟩) 2 2].toArray [blk g 47 #[.slice A1 bs1.length c1, .slice A2 bs2.length c2], p1, p2] fun v m => m = [bM v (bs1 ++ bs2), p1, p2] := by
 refine Does.body Tryz.func96 Z Z fun E fr hE => ?_
 refine cu (At.seq (At.region (L.as Z Z (L.nil (At.then (At.seq (At.region (L.as Z Z (L.nil (At.then (At.seq (At.seq (At.region (L.mv Z Z (L.pure Z (aP Z Z) (L.mv Z Z (L.nil (At.then (At.block ?_)))))))))))))))))))
 refine aT (X := Nat) (fun k => [(11, .int .i64 k), (10, .int .i64 (2 : Nat)), (9, .slice (some ⟨g, 0, none⟩) 2 2), (3, .int .i64 (e7 bs1 bs2 k).length), (0, .slice (some ⟨g, 0, none⟩) 2 2)]) (fun _ => blk g 47 #[.slice A1 bs1.length c1, .slice A2 bs2.length c2] :: p1 :: p2 :: fr) (fun k => k ≤ 2) (fun k => 2 - k) 0 (Nat.zero_le _) ⟨rfl, rfl, rfl, rfl, rfl, trivial⟩ (Ent.refl _) ?_
 intro k hk
 have hcl : (e7 bs1 bs2 k).length ≤ bs1.length + bs2.length := by unfold e7; split; simp; split; omega; simp
 refine At.seq (At.region (L.pure Z (bf Z Z Z) (L.nil (At.then (At.seq ?_)))))
 refine aC Z (fun c12 => ?_) (fun c12 => ?_)
 ·
  have hlt : k < 2 := by have : (k : Int) < ((2 : Nat) : Int) := c12; omega
  refine At.skip (At.then (At.seq (At.block (At.seq ?_))))
  by_cases HK : k = 0
  ·
   subst HK
   refine At.region (L.pure Z (bD (z := 1) Z Z Z Z hlt) (aX Z Z Z Z (L.as Z Z (L.nil (At.then (At.seq (At.region (L.mv Z Z (L.mv Z Z (L.pure Z (aP Z Z) ?_))))))))))
   refine L.pure Z (aO (r := ((e7 bs1 bs2 1).length : Int)) Z Z (by simp only [e7]; simp; rw [cT (by omega)])) ?_
   refine L.as Z Z (L.nil (At.then (At.seq (At.region (L.mv Z Z ?_)))))
   refine L.pure Z (bf (r := false) Z Z (by simp)) ?_
   refine L.nil (At.then (aj Z (At.skip (al (At.then (At.region ?_))))))
   refine L.pure Z (aO (r := ((1 : Nat) : Int)) Z Z (by decide)) ?_
   refine L.mv Z Z (L.nil ?_)
   exact At.round 1 (by omega) (by omega) ⟨rfl, rfl, rfl, rfl, rfl, trivial⟩ (Ent.refl _)
  ·
   obtain rfl : k = 1 := by omega
   refine At.region (L.pure Z (bD (z := 1) Z Z Z Z hlt) (aX Z Z Z Z (L.as Z Z (L.nil (At.then (At.seq (At.region (L.mv Z Z (L.mv Z Z (L.pure Z (aP Z Z) ?_))))))))))
   refine L.pure Z (aO (r := ((e7 bs1 bs2 2).length : Int)) Z Z (by simp only [e7]; simp; rw [cT (by omega)])) ?_
   refine L.as Z Z (L.nil (At.then (At.seq (At.region (L.mv Z Z ?_)))))
   refine L.pure Z (bf (r := false) Z Z (by simp)) ?_
   refine L.nil (At.then (aj Z (At.skip (al (At.then (At.region ?_))))))
   refine L.pure Z (aO (r := ((2 : Nat) : Int)) Z Z (by decide)) ?_
   refine L.mv Z Z (L.nil ?_)
   exact At.round 2 (by omega) (by omega) ⟨rfl, rfl, rfl, rfl, rfl, trivial⟩ (Ent.refl _)
 ·
  obtain rfl : k = 2 := by have : ¬ (k : Int) < ((2 : Nat) : Int) := c12; omega
  have h2 : e7 bs1 bs2 2 = bs1 ++ bs2 := rfl
  refine At.exit (au (ar (an (At.then (At.seq (At.region (L.mv Z Z ?_)))))))
  refine L.op Z (ah Z Z Z hE (xi (k := (e7 bs1 bs2 2).length) (by rw [h2, List.length_append]; exact h0) (by omega)) (Ent.refl _) ?_)
  rintro v m rfl
  refine ai (L.as Z Z (L.nil (At.then (At.seq (At.seq (At.region (L.mv Z Z (L.pure Z (aP Z Z) (L.mv Z Z (L.nil (At.then (At.block ?_))))))))))))
  refine aT (X := Nat × Value) (fun x => [(27, .int .i64 x.1), (26, .int .i64 (2 : Nat)), (25, .slice (some ⟨g, 0, none⟩) 2 2), (6, x.2)]) (fun x => bM x.2 (e7 bs1 bs2 x.1) :: blk g 47 #[.slice A1 bs1.length c1, .slice A2 bs2.length c2] :: p1 :: p2 :: fr) (fun x => x.1 ≤ 2) (fun x => 2 - x.1) (0, v) (Nat.zero_le _) ⟨rfl, rfl, rfl, rfl, trivial⟩ (Ent.refl _) ?_
  rintro ⟨k, u⟩ hk
  replace hk : k ≤ 2 := hk
  refine At.ent (l' := bM u (e7 bs1 bs2 k) :: blk g 47 #[.slice A1 bs1.length c1, .slice A2 bs2.length c2] :: p1 :: p2 :: fr) (Ent.refl _) (At.seq (At.region (L.pure Z (bf Z Z Z) (L.nil (At.then (At.seq ?_))))))
  refine aC Z (fun c28 => ?_) (fun c28 => ?_)
  ·
   have hlt : k < 2 := by have : (k : Int) < ((2 : Nat) : Int) := c28; omega
   refine At.skip (At.then (At.seq (At.block (At.seq ?_))))
   by_cases HM : k = 0
   ·
    subst HM
    refine At.region (L.pure Z (bD (z := 1) Z Z Z Z hlt) (aX Z Z Z Z (L.as Z Z (L.nil (At.then (At.region (L.mv Z Z (L.mv Z Z ?_))))))))
    refine L.op rfl (cj rfl rfl gS rfl (by omega) rfl rfl (HasVal.sel (v := u)) (news := bO bs1) (by rw [iy]; omega) (fun h => by rw [hA1 h]; rfl) (Reads.src hp1 (.tail (.tail .head))) (by intro u hu; obtain ⟨x, _, rfl⟩ := List.mem_map.1 hu; rfl) (by unfold maxLen; simp [e7]; omega) (by simp [e7]; omega) fun u2 hu2 => ?_)
    refine L.as Z Z (L.nil (al (At.then (At.region (L.pure Z (aO (r := ((1 : Nat) : Int)) Z Z Z) (L.mv Z Z (L.nil ?_)))))))
    refine At.round (1, u2) (by show 1 ≤ 2; omega) (by show 2 - 1 < 2 - 0; omega) ⟨rfl, rfl, rfl, rfl, trivial⟩ ?_
    show Ent (row 5 1 u2 (0 + bs1.length) ([] ++ bO bs1) :: _) (row 5 1 u2 bs1.length (bO bs1) :: _)
    rw [Nat.zero_add, List.nil_append]
    exact Ent.refl _
   ·
    obtain rfl : k = 1 := by omega
    refine At.region (L.pure Z (bD (z := 1) Z Z Z Z hlt) (aX Z Z Z Z (L.as Z Z (L.nil (At.then (At.region (L.mv Z Z (L.mv Z Z ?_))))))))
    refine L.op rfl (cj rfl rfl gS rfl (by omega) rfl rfl (HasVal.sel (v := u)) (news := bO bs2) (by rw [iy]; omega) (fun h => by rw [hA2 h]; rfl) (Reads.src hp2 (.tail (.tail (.tail .head)))) (by intro u hu; obtain ⟨x, _, rfl⟩ := List.mem_map.1 hu; rfl) (by unfold maxLen; simp [e7]; omega) (by simp [e7]; omega) fun u2 hu2 => ?_)
    refine L.as Z Z (L.nil (al (At.then (At.region (L.pure Z (aO (r := ((2 : Nat) : Int)) Z Z Z) (L.mv Z Z (L.nil ?_)))))))
    refine At.round (2, u2) (by show 2 ≤ 2; omega) (by show 2 - 2 < 2 - 1; omega) ⟨rfl, rfl, rfl, rfl, trivial⟩ ?_
    show Ent (row 5 1 u2 (bs1.length + bs2.length) (bO bs1 ++ bO bs2) :: _) (row 5 1 u2 (bs1 ++ bs2).length (bO (bs1 ++ bs2)) :: _)
    rw [List.length_append, fY]
    exact Ent.refl _
  ·
   obtain rfl : k = 2 := by have : ¬ (k : Int) < ((2 : Nat) : Int) := c28; omega
   refine At.exit (au (ar (an (At.then (At.seq (At.region (L.mv Z Z (L.as Z Z (L.nil (At.then (At.ret ?_)))))))))))
   exact aA [bM u (bs1 ++ bs2), p1, p2] rfl Z Z (Ent.cons Ent.drop)
end Go.Proofs.YtmeegfamopaljaaGreatDoor

namespace Go.Proofs.YtmeegfamopaljaaGreatDoor
open Go Go.RowKit Go.SL
abbrev cE (f e j d : Nat) (p : EA) (S : FK.En) (J : FK.Jn) (σ : FK.Dsk) : List HP := [dA f e j, ap e p S, aD j d J, ak d σ]
set_option maxRecDepth 10000 in
theorem nR {f e j d : Nat} {p : EA} {S : FK.En} {J : FK.Jn} {σ : FK.Dsk} {op t : Nat} {Q : FK.En → Prop} (ht : S.tasks.any (·.1 == t) = true) (hC : Does Tryz.prog Good 104 [aL f, .int .i64 op, bc t].toArray (cE f e j d p S J σ) (CallPost f e j d p S J σ op t Q)) : Does Tryz.prog Good 102 [aL f, .int .i64 op, bc t].toArray (cE f e j d p S J σ) (CallPost f e j d p S J σ op t Q) := by
 refine Does.body Tryz.func102 Z Z fun E fr hE => ?_
 refine dj (At.seq (At.region (L.as Z Z (L.nil (At.then (At.seq (At.seq (At.region (L.mv Z Z (aN Z Z (aE 0 Z Z Z (aX Z Z Z Z (L.mv Z Z (L.op Z (ah Z Z Z hE (tz t) (Ent.sel (.tail .head)) ?_)))))))))))))))
 rintro v m ⟨rfl, rfl⟩
 refine ai ?_
 rw [ht]
 refine L.pure Z (ck Z Z) (L.nil (At.then (aj Z (At.skip (At.then (At.seq (At.region (L.mv Z Z (L.mv Z Z (L.mv Z Z (L.op Z (ah Z Z Z hE hC (Ent.sel (.tail .head)) ?_))))))))))))
 rintro v m hv
 refine L.as Z Z (L.nil (At.then (At.ret ?_)))
 exact aA m Z Z hv (Ent.refl _)
theorem rW {S : FK.En} {t : Nat} {P : FK.Pl} (h : (S.tasks.find? (·.1 == t)).map (·.2) = some P) : S.tasks.any (·.1 == t) = true := by
 cases hf : S.tasks.find? (·.1 == t) with
 | none => rw [hf] at h; cases h
 | some x => exact List.any_eq_true.2 ⟨x, List.mem_of_find?_eq_some hf, List.find?_some (p := fun x : Nat × FK.Pl => x.1 == t) hf⟩
set_option maxRecDepth 10000 in
theorem mL {f e j d : Nat} {p : EA} {S : FK.En} {J : FK.Jn} {σ : FK.Dsk} {t : Nat} {P : FK.Pl} (h : FK.Ok S) (hn : t < 18446744073709551616) (hJ : J.n < 1000000) (hr : Roomy σ) (ht : (S.tasks.find? (·.1 == t)).map (·.2) = some P) (hends : S.ends < 9223372036854775807) : Does Tryz.prog Good 56 [aL f, bc t].toArray (cE f e j d p S J σ) (CallPost f e j d p S J σ 4 t fun U => U = S.complete t) := by
 refine Does.body Tryz.func56 Z Z fun E fr hE => ?_
 refine dj (At.seq (At.region (L.as Z Z (L.nil (At.then (At.seq (At.region (L.mv Z Z (L.mv Z Z ?_)))))))))
 refine L.op Z (ah Z Z Z hE (nR (op := 4) (Q := fun U => U = S.complete t) (rW ht) (lS (op := 4) (by omega) hn hJ hr (rS ((mF h ht hends).mono fun v m hv => ⟨m, ⟨hv.1, _, rfl, hv.2⟩, Ent.refl _⟩)))) (Ent.refl _) ?_)
 rintro v m hv
 refine L.as Z Z (L.nil (At.then (At.ret ?_)))
 exact aA m Z Z hv (Ent.refl _)
set_option maxRecDepth 10000 in
theorem sS {f e j d : Nat} {p : EA} {S : FK.En} {J : FK.Jn} {σ : FK.Dsk} {t : Nat} {P : FK.Pl} (h : FK.Ok S) (hn : t < 18446744073709551616) (hJ : J.n < 1000000) (hr : Roomy σ) (ht : (S.tasks.find? (·.1 == t)).map (·.2) = some P) (hsets : S.sets + 1 < 9223372036854775807) (hends : S.ends < 9223372036854775807) : Does Tryz.prog Good 57 [aL f, bc t].toArray (cE f e j d p S J σ) (CallPost f e j d p S J σ 5 t fun U => U = S.fail t) := by
 refine Does.body Tryz.func57 Z Z fun E fr hE => ?_
 refine dj (At.seq (At.region (L.as Z Z (L.nil (At.then (At.seq (At.region (L.mv Z Z (L.mv Z Z ?_)))))))))
 refine L.op Z (ah Z Z Z hE (nR (op := 5) (Q := fun U => U = S.fail t) (rW ht) (lS (op := 5) (by omega) hn hJ hr (rR ((vC h ht hsets hends).mono fun v m hv => ⟨m, ⟨hv.1, _, rfl, hv.2⟩, Ent.refl _⟩)))) (Ent.refl _) ?_)
 rintro v m hv
 refine L.as Z Z (L.nil (At.then (At.ret ?_)))
 exact aA m Z Z hv (Ent.refl _)
set_option maxRecDepth 10000 in
theorem uu {f e j d : Nat} {p : EA} {S : FK.En} {J : FK.Jn} {σ : FK.Dsk} {n : Nat} (h : FK.Ok S) (hn : n < 18446744073709551616) (hJ : J.n < 1000000) (hr : Roomy σ) (hsets : S.sets ≤ 4611686018427387904) (hends : S.ends ≤ 4611686018427387904) : Does Tryz.prog Good 59 [aL f, bc n].toArray (cE f e j d p S J σ) (CallPost f e j d p S J σ 7 n fun U => FK.Ticks (S.later n) S U) := by
 refine Does.body Tryz.func59 Z Z fun E fr hE => ?_
 refine dj (At.seq (At.region (L.as Z Z (L.nil (At.then (At.seq (At.region (L.mv Z Z (L.mv Z Z ?_)))))))))
 refine L.op Z (ah Z Z Z hE (lS (op := 7) (by omega) hn hJ hr (rQ (vd h hn hsets hends))) (Ent.refl _) ?_)
 rintro v m hv
 refine L.as Z Z (L.nil (At.then (At.ret ?_)))
 exact aA m Z Z hv (Ent.refl _)
set_option maxRecDepth 10000 in
theorem sO {f e j d : Nat} {p : EA} {S : FK.En} {J : FK.Jn} {σ : FK.Dsk} (hq : S.queue = []) : Does Tryz.prog Good 53 [aL f].toArray (cE f e j d p S J σ) fun v m => v = .tuple #[jn 0 0 0 0, .bool false, .nilIface] ∧ m = cE f e j d p S J σ := by
 refine Does.body Tryz.func53 Z Z fun E fr hE => ?_
 refine dj (At.seq (At.region (L.op Z (aH (z := .agg #[.int .u64 0, .int .i64 0, .int .i64 0, .int .u64 0]) Z Z fun b2 => (L.as Z Z (L.as Z Z (L.nil (At.then (At.seq (At.seq (At.region (L.mv Z Z (aN Z Z (aE 0 Z Z Z (aX Z Z Z Z (L.op Z (ah Z Z Z hE rX (Ent.sel (.tail (.tail .head))) ?_)))))))))))))))))
 rintro v m ⟨rfl, rfl⟩
 refine ai ?_
 rw [show decide (0 < S.queue.length) = false by rw [hq]; rfl]
 refine L.pure Z (ck Z Z) (L.nil (At.then (aR Z (At.seq (At.region (L.pure Z (bg (ps := []) (vs := []) (cs := (bo 0 0 0 0).toArray) Z Z Z Z Z) ?_))))))
 refine L.op Z (aG Z (m := 4) (vs := bo 0 0 0 0) Z Z Z Z (by simp [Value.oneCell']) (by show 0 + 4 ≤ 4; omega) ?_)
 refine ax b2 (bo 0 0 0 0).toArray Z (L.as Z Z (L.as Z Z (L.nil (At.then (At.ret (aI ?_))))))
 exact ie (cE f e j d p S J σ) Z (bU (vs := bo 0 0 0 0) Z Z Z Z (av Z)) (Res.tmp Z) (Res.tmp Z) ⟨rfl, rfl⟩ (Ent.drop.trans (Ent.sel (.tail .head)))
def la (f e j d : Nat) (p : EA) (S : FK.En) (J : FK.Jn) (σ : FK.Dsk) (id k : Nat) (q : List FK.Pl) (R : FK.Rn) (s : FK.Sp) (nd : FK.Node) (v : Value) (m : List HP) : Prop :=
 ((J.add σ (cV (FK.frame (FK.aY 2 0)))).2.2 = 0 ∧ v = .tuple #[jn id k (s.tries + 1) (S.lastToken + 1), .bool true, .nilIface] ∧ m = cE f e j d p (S.hand ⟨id, (k : Int), 0⟩ q R s nd) (J.add σ (cV (FK.frame (FK.aY 2 0)))).1 (J.add σ (cV (FK.frame (FK.aY 2 0)))).2.1) ∨
 ((J.add σ (cV (FK.frame (FK.aY 2 0)))).2.2 ≠ 0 ∧ v = .tuple #[jn 0 0 0 0, .bool false, eR (J.add σ (cV (FK.frame (FK.aY 2 0)))).2.2] ∧ m = cE f e j d p S (J.add σ (cV (FK.frame (FK.aY 2 0)))).1 (J.add σ (cV (FK.frame (FK.aY 2 0)))).2.1)
set_option maxRecDepth 10000 in
set_option maxHeartbeats 1000000 in
theorem sN {f e j d : Nat} {p : EA} {S : FK.En} {J : FK.Jn} {σ : FK.Dsk} (h : FK.Ok S) (hJ : J.n < 1000000) (hr : Roomy σ) {id k : Nat} {q : List FK.Pl} {R : FK.Rn} {s : FK.Sp} {nd : FK.Node} (hq : S.queue = ⟨id, (k : Int), 0⟩ :: q) (hR : S.getR id = some R) (hs : R.steps[k]? = some s) (hn : R.fl.nodes[k]? = some nd) (hsets : S.sets + 1 < 9223372036854775807) (htok : S.lastToken < 9223372036854775807) : Does Tryz.prog Good 53 [aL f].toArray (cE f e j d p S J σ) (la f e j d p S J σ id k q R s nd) := by
 refine Does.body Tryz.func53 Z Z fun E fr hE => ?_
 refine dj (At.seq (At.region (L.op Z (aH (z := .agg #[.int .u64 0, .int .i64 0, .int .i64 0, .int .u64 0]) Z Z fun b2 => (L.as Z Z (L.as Z Z (L.nil (At.then (At.seq (At.seq (At.region (L.mv Z Z (aN Z Z (aE 0 Z Z Z (aX Z Z Z Z (L.op Z (ah Z Z Z hE rX (Ent.sel (.tail (.tail .head))) ?_)))))))))))))))))
 rintro v m ⟨rfl, rfl⟩
 refine ai ?_
 rw [show decide (0 < S.queue.length) = true by rw [hq]; rfl]
 refine L.pure Z (ck Z Z) (L.nil (At.then (aj Z (At.skip (At.then (At.seq (At.seq (At.region (L.mv Z Z ?_)))))))))
 refine L.op Z (ah Z Z Z hE (pp (e := e) (j := j) (op := 2) (n := 0) (by omega) (by omega) hJ hr) (bX (.tail (.tail .head)) (.tail (.tail .head)) (.tail (.tail .head))) ?_)
 rintro v m ⟨hv, rfl⟩
 refine cu ?_
 generalize hω : J.add σ (cV (FK.frame (FK.aY 2 0))) = ω at hv ⊢
 refine L.as Z Z (L.nil (At.then (At.seq ?_)))
 by_cases HE : ω.2.2 = 0
 ·
  replace hv := hv.trans (if_pos HE)
  subst hv
  refine At.region (L.mv Z Z (L.pure Z (cb Z Z) (L.nil (At.then (aj Z (At.skip (At.then (At.seq (At.region (L.mv Z Z (aN Z Z (aE 0 Z Z Z (aX Z Z Z Z (L.op Z (ah Z Z Z hE (vk h hq hR hs hn hsets htok) (Ent.sel (.tail (.tail (.tail .head)))) ?_)))))))))))))))
  rintro v m ⟨rfl, rfl⟩
  refine ai (L.mv Z Z (L.ex Z Z Z (L.ex Z Z Z (L.op Z (aH (z := .agg #[.int .u64 0, .int .i64 0, .int .i64 0, .int .u64 0]) Z Z fun b6 => ?_)))))
  refine L.op Z (aG Z (m := 4) (vs := bo id k (s.tries + 1) (S.lastToken + 1)) Z Z Z Z (by simp [Value.oneCell']) (by show 0 + 4 ≤ 4; omega) ?_)
  refine ax b6 (bo id k (s.tries + 1) (S.lastToken + 1)).toArray Z (L.as Z Z (L.nil (At.then (At.seq (At.region (L.val Z (am (vs := bo id k (s.tries + 1) (S.lastToken + 1)) Z Z Z Z) (av Z) (L.mv Z Z ?_)))))))
  refine L.op Z (aG Z (m := 4) (vs := bo id k (s.tries + 1) (S.lastToken + 1)) Z Z Z Z (by simp [Value.oneCell']) (by show 0 + 4 ≤ 4; omega) ?_)
  refine ax b2 (bo id k (s.tries + 1) (S.lastToken + 1)).toArray Z (L.as Z Z (L.as Z Z (L.nil (At.then (At.ret ?_)))))
  refine ie (cE f e j d p (S.hand ⟨id, (k : Int), 0⟩ q R s nd) ω.1 ω.2.1) Z (bU (vs := bo id k (s.tries + 1) (S.lastToken + 1)) Z Z Z Z (av Z)) (Res.tmp Z) (Res.tmp Z) (by unfold la; rw [hω]; exact .inl ⟨HE, rfl, rfl⟩) ?_
  show Ent _ (dA f e j :: ap e p _ :: aD j d ω.1 :: ak d ω.2.1 :: fr)
  exact ao
 ·
  replace hv := hv.trans (if_neg HE)
  subst hv
  refine At.region (L.mv Z Z (L.pure Z (fg Z Z) (L.nil (At.then (aR Z (At.seq (At.region (L.pure Z (bg (ps := []) (vs := []) (cs := (bo 0 0 0 0).toArray) Z Z Z Z Z) (L.mv Z Z ?_)))))))))
  refine L.op Z (aG Z (m := 4) (vs := bo 0 0 0 0) Z Z Z Z (by simp [Value.oneCell']) (by show 0 + 4 ≤ 4; omega) ?_)
  refine ax b2 (bo 0 0 0 0).toArray Z (L.as Z Z (L.as Z Z (L.nil (At.then (At.ret (aI ?_))))))
  refine ie (cE f e j d p S ω.1 ω.2.1) Z (bU (vs := bo 0 0 0 0) Z Z Z Z (av Z)) (Res.tmp Z) (Res.tmp Z) (by unfold la; rw [hω]; exact .inr ⟨HE, by unfold eR; rw [if_neg HE], rfl⟩) ?_
  show Ent _ (dA f e j :: ap e p _ :: aD j d ω.1 :: ak d ω.2.1 :: fr)
  exact ao
set_option maxRecDepth 10000 in
theorem qN {f e j d : Nat} {p : EA} {S : FK.En} {J : FK.Jn} {σ : FK.Dsk} {id : Nat} {R : FK.Rn} (h : FK.Ok S) (hR : S.getR id = some R) : Does Tryz.prog Good 61 [aL f, bc id].toArray (cE f e j d p S J σ) fun v m => ∃ A2 c2 A3 c3, v = .tuple #[.agg (cB id R.state (.slice A2 R.steps.length c2) (.slice A3 R.steps.length c3)).toArray, .nilIface] ∧ m = bh (.slice A2 R.steps.length c2) (R.steps.map (·.state)) :: bh (.slice A3 R.steps.length c3) (R.steps.map (·.tries)) :: cE f e j d p S J σ := by
 have hlm : ∀ g : FK.Sp → Int, (R.steps.map g).length = R.steps.length := fun g => List.length_map _
 refine Does.body Tryz.func61 Z Z fun E fr hE => ?_
 refine dj (At.seq (At.region (L.op Z (aH (z := .agg #[.int .u64 0, .int .i64 0, .slice none 0 0, .slice none 0 0]) Z Z fun b4 => (L.as Z Z (L.nil (At.then (At.seq (At.region (L.mv Z Z (aN Z Z (aE 0 Z Z Z (aX Z Z Z Z (L.mv Z Z (L.op Z (ah Z Z Z hE (y0 h hR) (Ent.sel (.tail (.tail .head))) ?_))))))))))))))))
 rintro v m ⟨v2, v3, rfl, rfl⟩
 refine cu (aJ (HasVal.sel (v := v2)) ?_)
 rintro A2 c2 hv2 - - - - -
 refine aJ (HasVal.sel (v := v3)) ?_
 rintro A3 c3 hv3 - - - - -
 rw [hlm] at hv2 hv3
 subst hv2; subst hv3
 refine L.mv Z Z (L.ex Z Z Z (L.ex Z Z Z (L.op Z (aH (z := .agg #[.int .u64 0, .int .i64 0, .slice none 0 0, .slice none 0 0]) Z Z fun b6 => ?_))))
 refine L.op Z (aG Z (m := 4) (vs := cB id R.state (.slice A2 R.steps.length c2) (.slice A3 R.steps.length c3)) Z Z Z Z (by simp [Value.oneCell']) (by show 0 + 4 ≤ 4; omega) ?_)
 refine ax b6 (cB id R.state (.slice A2 R.steps.length c2) (.slice A3 R.steps.length c3)).toArray Z (L.as Z Z (L.nil (At.then (At.seq (At.seq (At.region (L.mv Z Z (L.pure Z (ck Z Z) (L.nil (At.then (aj Z (At.skip (At.then (At.seq (At.region (L.val Z (am (vs := cB id R.state (.slice A2 R.steps.length c2) (.slice A3 R.steps.length c3)) Z Z Z Z) (av Z) ?_))))))))))))))))
 refine L.op Z (aG Z (m := 4) (vs := cB id R.state (.slice A2 R.steps.length c2) (.slice A3 R.steps.length c3)) Z Z Z Z (by simp [Value.oneCell']) (by show 0 + 4 ≤ 4; omega) ?_)
 refine ax b4 (cB id R.state (.slice A2 R.steps.length c2) (.slice A3 R.steps.length c3)).toArray Z (L.as Z Z (L.nil (At.then (At.ret ?_))))
 refine eW (bh (.slice A2 R.steps.length c2) (R.steps.map (·.state)) :: bh (.slice A3 R.steps.length c3) (R.steps.map (·.tries)) :: cE f e j d p S J σ) Z (bU (vs := cB id R.state (.slice A2 R.steps.length c2) (.slice A3 R.steps.length c3)) Z Z Z Z (av Z)) (Res.tmp Z) ⟨A2, c2, A3, c3, rfl, rfl⟩ ?_
 show Ent _ (bh _ _ :: bh _ _ :: dA f e j :: ap e p _ :: aD j d J :: ak d σ :: fr)
 exact ao
end Go.Proofs.YtmeegfamopaljaaGreatDoor

namespace Go.Proofs.YtmeegfamopaljaaGreatDoor
open Go Go.RowKit Go.Deep
def ErrAt (w : World) (base : Nat) (v : Value) (p : Int × Int) : Prop :=
 (p.1 = 0 ∧ v = .nilIface) ∨ (p.1 ≠ 0 ∧ ∃ b, v = .iface 159 (.pointer (some ⟨b, 0, none⟩)) ∧ base ≤ b ∧ Blk w b 164 #[.int .i64 p.1, .int .i64 p.2])
theorem ErrAt.made {w : World} {base : Nat} {p : Int × Int} (hp : p.1 ≠ 0) (hb : base ≤ w.heap.size) :
 ErrAt (w.alloc (.cells #[.int .i64 p.1, .int .i64 p.2] 164)) base (.iface 159 (.pointer (some ⟨w.heap.size, 0, none⟩))) p :=
 .inr ⟨hp, _, rfl, hb, Blk.made _ _ _⟩
theorem ErrAt.keep {w w' : World} {base : Nat} {v : Value} {p : Int × Int} (h : ErrAt w base v p) (hs : ∀ b, base ≤ b → b < w.heap.size → w'.heap[b]? = w.heap[b]?) : ErrAt w' base v p := by
 rcases h with h | ⟨hp, b, hv, hb, hk⟩
 · exact .inl h
 · exact .inr ⟨hp, b, hv, hb, (hs b hb hk.lt).trans hk⟩
set_option maxHeartbeats 400000 in
theorem jy (n low : Int) (w : World) (h1 : low ≤ n) (h2 : n ≤ 1048576) :
 Calls Tryz.prog 138 #[.int .i64 n, .int .i64 low] w fun e w' => e = .returned (.bool true) ∧ w = w' := by
 go_enter Tryz.func138, Tryz.ntmps138
 go_wp2
 go_ret
 exact ⟨rfl, rfl⟩
set_option maxHeartbeats 400000 in
theorem ve (n low : Int) (w : World) (h : n < low ∨ 1048576 < n) :
 Calls Tryz.prog 138 #[.int .i64 n, .int .i64 low] w fun e w' => e = .returned (.bool false) ∧ w = w' := by
 by_cases hl : low ≤ n
 · have h2 : decide (n ≤ 1048576) = false := by simp; omega
   clear h
   go_enter Tryz.func138, Tryz.ntmps138
   go_wp2
   go_ret
   exact ⟨rfl, rfl⟩
 · have h2 : n < low := by omega
   clear h
   go_enter Tryz.func138, Tryz.ntmps138
   go_wp2
   go_ret
   exact ⟨rfl, rfl⟩
set_option maxHeartbeats 400000 in
theorem eu (e a : Int) (w : World) :
 Calls Tryz.prog 137 #[.int .i64 e, .int .i64 a] w fun en w' => en = .returned (.iface 159 (.pointer (some ⟨w.heap.size, 0, none⟩))) ∧ w.alloc (.cells #[.int .i64 e, .int .i64 a] 164) = w' := by
 go_enter Tryz.func137, Tryz.ntmps137
 go_wp2
 go_ret
 exact ⟨rfl, rfl⟩
set_option maxHeartbeats 400000 in
theorem uc (k : Int) (w : World) :
 Calls Tryz.prog 140 #[.int .i64 k] w fun en w' => en = .returned (.tuple #[]) ∧ w = w' := by
 go_enter Tryz.func140, Tryz.ntmps140
 go_wp2
 go_end0
 exact ⟨rfl, rfl⟩
theorem ub {n : FK.Node} (h : ¬ FK.cf n) :
 n.budget < 1 ∨ (1 ≤ n.budget ∧ 5 < n.budget) ∨ ((1 ≤ n.budget ∧ n.budget ≤ 5) ∧ (n.close < 1 ∨ 1048576 < n.close)) ∨
 ((1 ≤ n.budget ∧ n.budget ≤ 5) ∧ (1 ≤ n.close ∧ n.close ≤ 1048576) ∧ (n.beat < 0 ∨ 1048576 < n.beat)) ∨
 ((1 ≤ n.budget ∧ n.budget ≤ 5) ∧ (1 ≤ n.close ∧ n.close ≤ 1048576) ∧ (0 ≤ n.beat ∧ n.beat ≤ 1048576) ∧ (n.base < 1 ∨ 1048576 < n.base)) ∨
 ((1 ≤ n.budget ∧ n.budget ≤ 5) ∧ (1 ≤ n.close ∧ n.close ≤ 1048576) ∧ (0 ≤ n.beat ∧ n.beat ≤ 1048576) ∧ (1 ≤ n.base ∧ n.base ≤ 1048576) ∧ (n.cap < n.base ∨ 1048576 < n.cap)) ∨
 ((1 ≤ n.budget ∧ n.budget ≤ 5) ∧ (1 ≤ n.close ∧ n.close ≤ 1048576) ∧ (0 ≤ n.beat ∧ n.beat ≤ 1048576) ∧ (1 ≤ n.base ∧ n.base ≤ 1048576) ∧ (n.base ≤ n.cap ∧ n.cap ≤ 1048576) ∧ (n.jitter < 0 ∨ 1048576 < n.jitter)) := by
 unfold FK.cf FK.span at h
 omega
def CheckPost (w : World) (p : Int × Int) (e : Ending) (w' : World) : Prop := ∃ v, e = .returned v ∧ ErrAt w' w.heap.size v p ∧ Below w.heap.size w w'
theorem cH {w w' : World} {p : Int × Int} {b : Nat} (hp : p.1 ≠ 0) (hb : Below w.heap.size w w') (he : w'.heap.size = b) :
 CheckPost w p (.returned (.iface 159 (.pointer (some ⟨b, 0, none⟩)))) (w'.alloc (.cells #[.int .i64 p.1, .int .i64 p.2] 164)) :=
 ⟨_, rfl, by subst he; exact .made hp hb.size, hb.alloc hb.size _⟩
set_option maxRecDepth 100000 in
set_option maxHeartbeats 1000000 in
theorem uJ (w : World) (A : Option Addr) (c : Nat) (f : FK.Flow) (hh : ¬ FK.gt f) : Calls Tryz.prog 89 #[.agg #[.int .i64 f.deadline, .slice A f.nodes.length c]] w (CheckPost w (FK.chk f)) := by
 have HR := Lib.hid (FK.Checked.head hh).chk
 have hcases : (f.deadline < 1 ∨ 1048576 < f.deadline) ∨ ((1 ≤ f.deadline ∧ f.deadline ≤ 1048576) ∧ f.nodes.length = 0) ∨ ((1 ≤ f.deadline ∧ f.deadline ≤ 1048576) ∧ 12 < f.nodes.length) := by
  unfold FK.gt FK.span at hh; omega
 clear hh
 rw [HR.out]
 rcases hcases with h | ⟨⟨h1, h2⟩, h3⟩ | ⟨⟨h1, h2⟩, h3⟩
 · go_enter Tryz.func89, Tryz.ntmps89
   go_wp2_with (first
    | (go_at_call 138; refine (ve _ _ _ (by omega)).mono ?_; rintro e w2 ⟨rfl, rfl⟩)
    | (go_at_call 137; refine (eu _ _ _).mono ?_; rintro e w2 ⟨rfl, rfl⟩))
   go_ret
   refine cH (w := w) (p := (2, -1)) (by decide) ?_ (by simp)
   exact (by repeat (first | assumption | exact Below.refl _ _ | refine below_drewN ?_ _ | refine Below.drew ?_ | refine Below.alloc ?_ (by first | omega | (simp; done) | (simp; omega)) _ | refine Below.setCell ?_ (by first | omega | (simp; done) | (simp; omega)) _))
 · have h3' : ((f.nodes.length : Int) == 0) = true := by simp [h3]
   have H3 := Lib.hid h3
   clear h3
   go_enter Tryz.func89, Tryz.ntmps89
   go_wp2_with (first
    | (go_at_call 138; refine (jy _ _ _ (by omega) (by omega)).mono ?_; rintro e w2 ⟨rfl, rfl⟩)
    | (go_at_call 137; refine (eu _ _ _).mono ?_; rintro e w2 ⟨rfl, rfl⟩))
   go_ret
   refine cH (w := w) (p := (2, -1)) (by decide) ?_ (by simp)
   exact (by repeat (first | assumption | exact Below.refl _ _ | refine below_drewN ?_ _ | refine Below.drew ?_ | refine Below.alloc ?_ (by first | omega | (simp; done) | (simp; omega)) _ | refine Below.setCell ?_ (by first | omega | (simp; done) | (simp; omega)) _))
 · have h3' : ((f.nodes.length : Int) == 0) = false := by rw [beq_eq_false_iff_ne]; omega
   go_enter Tryz.func89, Tryz.ntmps89
   go_wp2_with (first
    | (go_at_call 138; refine (jy _ _ _ (by omega) (by omega)).mono ?_; rintro e w2 ⟨rfl, rfl⟩)
    | (go_at_call 137; refine (eu _ _ _).mono ?_; rintro e w2 ⟨rfl, rfl⟩))
   go_ret
   refine cH (w := w) (p := (2, -1)) (by decide) ?_ (by simp)
   exact (by repeat (first | assumption | exact Below.refl _ _ | refine below_drewN ?_ _ | refine Below.drew ?_ | refine Below.alloc ?_ (by first | omega | (simp; done) | (simp; omega)) _ | refine Below.setCell ?_ (by first | omega | (simp; done) | (simp; omega)) _))
end Go.Proofs.YtmeegfamopaljaaGreatDoor

namespace Go.Proofs.YtmeegfamopaljaaGreatDoor
open Go Go.RowKit Go.Deep
theorem Tab.lt {w : World} (h : Tab w) : 2 < w.heap.size := by
 have h0 := h 0 (by decide)
 rcases Nat.lt_or_ge 2 w.heap.size with hlt | hge
 · exact hlt
 · unfold World.cell? at h0
   simp [Array.getElem?_eq_none hge] at h0
theorem Tab.below {w w' : World} (h : Tab w) (hb : Below w.heap.size w w') : Tab w' := h.keep hb.to_same h.lt
theorem ol {len m : Nat} {p : Int} {l : List Int} (hm : m < l.length) : FK.EdgesOk len p (l.drop m) ↔ (p < l[m] ∧ l[m] < len ∧ FK.EdgesOk len l[m] (l.drop (m + 1))) := by
 rw [List.drop_eq_getElem_cons hm]; rfl
def vO (len : Nat) (l : List Int) (m : Nat) (last : Int) : Prop := FK.EdgesOk len (-1) l ↔ FK.EdgesOk len last (l.drop m)
set_option maxRecDepth 100000 in
set_option maxHeartbeats 4000000 in
theorem uK (w : World) (B : Nat) (A : Option Addr) (c : Nat) (f : FK.Flow) (hB : B ≤ w.heap.size) (hN : NodesAt w B A c f.nodes) (hT : Tab w)
 (hh : FK.gt f) : Calls Tryz.prog 89 #[.agg #[.int .i64 f.deadline, .slice A f.nodes.length c]] w (CheckPost w (FK.chk f)) := by
 have hhead := hh
 obtain ⟨⟨d1, d2⟩, l1, l2⟩ := hhead
 have HN := Lib.hid hN
 have HT := Lib.hid hT
 have HH := Lib.hid hh
 have g1 := hN.len
 have g2 := hN.cap
 clear hT hh hN
 have hz : ((f.nodes.length : Int) == 0) = false := by rw [beq_eq_false_iff_ne]; omega
 have hent : ∀ (args : Array Value) (W : World), (callFunc 140 args).run Tryz.prog W = .ok (.enter 140 args) W := fun args W => by kernel_rfl
 have HENT := Lib.hid hent
 clear hent
 go_enter Tryz.func89, Tryz.ntmps89
 go_wp2_with (go_at_call 138; refine (jy _ _ _ (by omega) (by omega)).mono ?_; rintro e w2 ⟨rfl, rfl⟩)
 go_loopw [33] (fun i wr => ∃ k : Nat, k ≤ f.nodes.length ∧ i = .int .i64 k ∧ FK.OkTo f k ∧ Below w.heap.size w wr ∧ w.heap.size < wr.heap.size ∧ wr.cell? ⟨w.heap.size, 1, none⟩ = some (.slice A f.nodes.length c)) (fun i _ => f.nodes.length - (intOf i).toNat)
 case atStart => exact ⟨0, by omega, rfl, fun j n hj => by omega, (by repeat (first | assumption | exact Below.refl _ _ | refine below_drewN ?_ _ | refine Below.drew ?_ | refine Below.alloc ?_ (by first | omega | (simp; done) | (simp; omega)) _ | refine Below.setCell ?_ (by first | omega | (simp; done) | (simp; omega)) _)), by simp, by go_simp⟩
 case round =>
  obtain ⟨k, hk, rfl, hok, hb, hsz, hcf⟩ := hrel
  by_cases hlt : k < f.nodes.length
  · obtain ⟨b, off, rfl, hbB, hcell⟩ := HN.out.cells (by omega)
    have hkn : f.nodes[k]? = some f.nodes[k] := by simp [hlt]
    obtain ⟨n, hn⟩ : ∃ n, n = f.nodes[k] := ⟨_, rfl⟩
    rw [← hn] at hkn
    clear hn
    have hnode := (hcell k n hkn).keep (hb.to_same.mono hB) hbB
    obtain ⟨c0, c1, c2, c3, c4, c5, ⟨A6, n6, c6, hi⟩, hr⟩ := hnode
    have HI6 := Lib.hid hi
    have HKN := Lib.hid hkn
    have HOK := Lib.hid hok
    have HB := Lib.hid hb
    clear hcell hr hi hkn hok hb
    by_cases hno : FK.cf n
    · have HNO := Lib.hid hno
      obtain ⟨a1, a2, ⟨a3, a4⟩, ⟨a5, a6⟩, ⟨a7, a8⟩, ⟨a9, a10⟩, a11, a12⟩ := hno
      have hal := HI6.out.len
      have hac := HI6.out.cap
      go_wp2_with (go_at_call 138; refine (jy _ _ _ (by omega) (by omega)).mono ?_; rintro e w2 ⟨rfl, rfl⟩)
      go_loop [7, 89] (fun s t => ∃ (m : Nat) (last : Int), m ≤ n.after.length ∧ t = .int .i64 m ∧ s = .int .i64 last ∧ -1 ≤ last ∧ last < f.nodes.length ∧ vO f.nodes.length n.after m last) (fun _ t => n.after.length - (intOf t).toNat)
      case atStart => exact ⟨0, -1, by omega, rfl, rfl, by omega, by omega, by simp [vO]⟩
      case round =>
       obtain ⟨m, last, hm, rfl, rfl, hl0, hl1, her⟩ := hrel
       have HER := Lib.hid her
       clear her
       by_cases hmlt : m < n.after.length
       · obtain ⟨b6, o6, hA6, hb6, hc6⟩ := HI6.out.cells (by omega)
         have hxm := hc6 m n.after[m] (by simp [hmlt])
         have hxr := HI6.out.rng n.after[m] (List.getElem_mem _)
         obtain ⟨x, hx⟩ : ∃ x, x = n.after[m] := ⟨_, rfl⟩
         rw [← hx] at hxm hxr
         have HD := Lib.hid (ol (len := f.nodes.length) (p := last) hmlt)
         rw [← hx] at HD
         obtain ⟨hr1, hr2⟩ := hxr
         have hb6lt : b6 < wr.heap.size := by omega
         subst hA6
         clear hc6 hx
         by_cases h1 : x ≤ last
         · have hbad : ¬ FK.EdgesOk f.nodes.length (-1) n.after := fun he => by have := (HD.out.1 (HER.out.1 he)).1; omega
           have HR := Lib.hid (FK.Checked.edge k n HH.out HOK.out HKN.out HNO.out hbad).chk
           clear hbad
           go_wp2_with (go_at_call 137; refine (eu _ _ _).mono ?_; rintro e w2 ⟨rfl, rfl⟩)
           go_ret
           rw [HR.out]
           refine cH (w := w) (p := (3, (k : Int))) (by simp) ?_ (by simp)
           exact (by repeat (first | exact HB.out | refine below_drewN ?_ _ | refine Below.drew ?_ | refine Below.alloc ?_ (by first | omega | (simp; done) | (simp; omega)) _ | refine Below.setCell ?_ (by first | omega | (simp; done) | (simp; omega)) _))
         · by_cases h2 : (f.nodes.length : Int) ≤ x
           · have hbad : ¬ FK.EdgesOk f.nodes.length (-1) n.after := fun he => by have := (HD.out.1 (HER.out.1 he)).2.1; omega
             have HR := Lib.hid (FK.Checked.edge k n HH.out HOK.out HKN.out HNO.out hbad).chk
             clear hbad
             go_wp2_with (go_at_call 137; refine (eu _ _ _).mono ?_; rintro e w2 ⟨rfl, rfl⟩)
             go_ret
             rw [HR.out]
             refine cH (w := w) (p := (3, (k : Int))) (by simp) ?_ (by simp)
             exact (by repeat (first | exact HB.out | refine below_drewN ?_ _ | refine Below.drew ?_ | refine Below.alloc ?_ (by first | omega | (simp; done) | (simp; omega)) _ | refine Below.setCell ?_ (by first | omega | (simp; done) | (simp; omega)) _))
           · go_wp2
             go_round
             case rel => exact ⟨m + 1, x, by omega, by go_num, rfl, by omega, by omega, HER.out.trans (HD.out.trans ⟨fun h => h.2.2, fun h => ⟨by omega, by omega, h⟩⟩)⟩
             case measure => simp [intOf]; omega
       · have hedges : FK.EdgesOk f.nodes.length (-1) n.after := HER.out.2 (by rw [List.drop_of_length_le (by omega)]; trivial)
         have hnext : FK.OkTo f (k + 1) := fun j n' hj hn' => by
          rcases Nat.lt_or_ge j k with h | h
          · exact HOK.out j n' h hn'
          · obtain rfl : j = k := by omega
            have := HKN.out
            rw [hn'] at this
            cases this
            exact ⟨HNO.out, hedges⟩
         have HNEXT := Lib.hid hnext
         clear hnext hedges
         go_wp2
         go_roundw
         case rel => exact ⟨k + 1, by omega, by go_num, HNEXT.out, (by repeat (first | exact HB.out | refine below_drewN ?_ _ | refine Below.drew ?_ | refine Below.alloc ?_ (by first | omega | (simp; done) | (simp; omega)) _ | refine Below.setCell ?_ (by first | omega | (simp; done) | (simp; omega)) _)), by simp; omega, by go_simp⟩
         case measure => simp [intOf]; omega
    · have HR := Lib.hid (FK.Checked.bound k n HH.out HOK.out HKN.out hno).chk
      have hways := ub hno
      clear hno
      rcases hways with h | ⟨h0, h⟩ | ⟨h0, h⟩ | ⟨h0, h2, h⟩ | ⟨h0, h2, h3, h⟩ | ⟨h0, h2, h3, h4, h⟩ | ⟨h0, h2, h3, h4, h5, h⟩
      all_goals
       go_wp2_with (first
        | (go_at_call 138; refine (jy _ _ _ (by omega) (by omega)).mono ?_; rintro e w2 ⟨rfl, rfl⟩)
        | (go_at_call 138; refine (ve _ _ _ (by omega)).mono ?_; rintro e w2 ⟨rfl, rfl⟩)
        | (go_at_call 137; refine (eu _ _ _).mono ?_; rintro e w2 ⟨rfl, rfl⟩))
       go_ret
       rw [HR.out]
       refine cH (w := w) (p := (2, (k : Int))) (by simp) ?_ (by simp)
       exact (by repeat (first | exact HB.out | refine below_drewN ?_ _ | refine Below.drew ?_ | refine Below.alloc ?_ (by first | omega | (simp; done) | (simp; omega)) _ | refine Below.setCell ?_ (by first | omega | (simp; done) | (simp; omega)) _))
  · obtain rfl : k = f.nodes.length := by omega
    have HOK := Lib.hid hok
    have HB := Lib.hid hb
    have hgt := HT.out.lt
    have hv := hok.aft_lt
    have hpos : ∀ n ∈ f.nodes, ∀ x ∈ n.after, 0 ≤ x := fun n hn x hx => by
     obtain ⟨i, hi, rfl⟩ := List.mem_iff_getElem.1 hn
     have := (hok i f.nodes[i] hi (by simp [hi])).2.bounds x hx
     omega
    have HORD := Lib.hid (lX wr B A c f.nodes 140 #[] (fun W _ => Below wr.heap.size wr W) (by omega) l2 hv hpos HENT.out (Below.refl _ _)
     (fun W T h => ⟨(HN.out.keep (hb.to_same.mono hB)).keep (h.to_same.mono (by omega)), (HT.out.below hb).below h, h.size⟩)
     (fun W W' T h h' => h.trans h')
     (fun W T k h _ _ _ => (uc k W).mono fun e W' ⟨he, hw⟩ => by subst hw; exact ⟨he, h, Nat.le_refl _, fun _ _ _ => rfl⟩))
    clear hok hb hv hpos
    go_wp2_with (fail)
    refine HORD.out.mono ?_
    rintro e w2 ⟨left, T, rfl, hi2, ho2, hst2⟩
    have hstuck := ho2.stuck (HOK.out.aft_lt) hst2
    have hl4 := ge ho2 l2
    have HB2 := Lib.hid (HB.out.trans (hi2.mono HB.out.size))
    have HT2 := Lib.hid ((HT.out.below HB.out).below hi2)
    clear hi2 ho2 hst2
    by_cases hl0 : left = 0
    · have HR := Lib.hid (FK.Checked.ok HH.out HOK.out fun i hi => Classical.byContradiction fun hn => by
       have := (hstuck i).2 ⟨hi, hn⟩
       rw [hl0] at this; simp at this).chk
      have hne : ((left : Int) != 0) = false := by rw [hl0]; rfl
      clear hstuck hl0
      go_wp2
      go_ret
      rw [HR.out]
      exact ⟨_, rfl, .inl ⟨rfl, rfl⟩, HB2.out⟩
    · obtain ⟨t1, t2, t3⟩ := jQ left (by omega) hl0
      have HTZ := Lib.hid (jw left (by omega) hl0 w2 HT2.out)
      have hne : ((left : Int) != 0) = true := by rw [bne_iff_ne]; omega
      generalize Lib.ctz 64 left = t at HTZ t1 t2 t3
      have ht := (hstuck t).1 t1
      have HR := Lib.hid (FK.Checked.cycle t HH.out HOK.out ht.1 ht.2 fun j hj => Classical.byContradiction fun hn => by
       have := (hstuck j).2 ⟨by omega, hn⟩
       rw [t2 j hj] at this; cases this).chk
      clear hstuck hl0 t1 t2 ht
      go_wp2_with (first
       | (go_at_call 141; refine HTZ.out.mono ?_; rintro e w3 ⟨rfl, rfl⟩)
       | (go_at_call 137; refine (eu _ _ _).mono ?_; rintro e w3 ⟨rfl, rfl⟩))
      go_ret
      rw [HR.out]
      refine cH (w := w) (p := (4, (t : Int))) (by simp) ?_ (by simp)
      exact (by repeat (first | exact HB2.out | refine below_drewN ?_ _ | refine Below.drew ?_ | refine Below.alloc ?_ (by first | omega | (simp; done) | (simp; omega)) _ | refine Below.setCell ?_ (by first | omega | (simp; done) | (simp; omega)) _))
theorem lY (w : World) (B : Nat) (A : Option Addr) (c : Nat) (f : FK.Flow) (hB : B ≤ w.heap.size) (hN : NodesAt w B A c f.nodes) (hT : Tab w) :
 Calls Tryz.prog 89 #[.agg #[.int .i64 f.deadline, .slice A f.nodes.length c]] w (CheckPost w (FK.chk f)) := by
 by_cases hh : FK.gt f
 · exact uK w B A c f hB hN hT hh
 · exact uJ w A c f hh
end Go.Proofs.YtmeegfamopaljaaGreatDoor

namespace Go.SL
open Go Go.RowKit
theorem Holds.fresh {E : Env} {w w' : World} {l : List HP} {b : Nat} {o : Obj} (h : Holds E w l) (hb : Below w.heap.size w w') (hge : w.heap.size ≤ b) (ho : w'.heap[b]? = some o) : Holds E w' (SL.ob b o :: l) := by
 refine ⟨h.is.below hb, fun k => k = b, E.free w, fun k hk => ?_, fun k hk => ⟨Nat.lt_of_lt_of_le hk.1 hb.size, hk.2⟩, fun k hk hk' => ?_, ⟨rfl, ho⟩, h.star.loc (fun _ h => h) fun k hk => hb.block k hk.1⟩
 · subst hk
   refine ⟨(Array.getElem?_eq_some_iff.1 ho).1, fun p hp e => ?_⟩
   have := h.is.lt hp
   omega
 · have := hk'.1
   omega
end Go.SL
namespace Go.Proofs.YtmeegfamopaljaaGreatDoor
open Go Go.RowKit Go.SL
def ErrPost (p : Int × Int) (v : Value) (m : List HP) : Prop := (p.1 = 0 ∧ v = .nilIface ∧ m = []) ∨ (p.1 ≠ 0 ∧ ∃ b, v = .iface 159 (.pointer (some ⟨b, 0, none⟩)) ∧ m = [blk b 164 #[.int .i64 p.1, .int .i64 p.2]])
theorem ErrPost.ok {p : Int × Int} {v : Value} {m : List HP} (h : ErrPost p v m) (h0 : p.1 = 0) : v = .nilIface ∧ m = [] := by
 rcases h with ⟨_, h⟩ | ⟨h, _⟩
 · exact h
 · exact absurd h0 h
theorem ErrPost.bad {p : Int × Int} {v : Value} {m : List HP} (h : ErrPost p v m) (h0 : p.1 ≠ 0) : ∃ b, v = .iface 159 (.pointer (some ⟨b, 0, none⟩)) ∧ m = [blk b 164 #[.int .i64 p.1, .int .i64 p.2]] := by
 rcases h with ⟨h, _⟩ | ⟨_, h⟩
 · exact absurd h h0
 · exact h
theorem gh (f : FK.Flow) (A : Option Addr) (c : Nat) : Gives Tryz.prog Good 89 [.agg #[.int .i64 f.deadline, .slice A f.nodes.length c]].toArray (fun w => NodesAt w w.heap.size A c f.nodes)
 (ErrPost (FK.chk f)) := fun E w hE hw hN =>
 (lY w w.heap.size A c f (Nat.le_refl _) hN (hE.tab w hw)).mono fun e w' ⟨v, he, herr, hb⟩ => by
  have h0 := (Holds.start hw)
  rcases herr with ⟨h1, rfl⟩ | ⟨h1, b, rfl, hge, ho⟩
  · exact ⟨_, [], he, .inl ⟨h1, rfl, rfl⟩, h0.below hb⟩
  · exact ⟨_, [_], he, .inr ⟨h1, b, rfl, rfl⟩, h0.fresh hb hge ho⟩
theorem zO {bs : List UInt8} {e : Nat} (h : FK.rd bs 0 = .error e) : FK.oO bs = .error (1, (e : Int)) := by
 unfold FK.oO FK.ir
 rw [lM h]
 rfl
theorem tZ {bs : List UInt8} {n q e : Nat} (h : FK.rd bs 0 = .ok (n, q)) (h2 : FK.dB bs (FK.fw bs) q = .error e) : FK.oO bs = .error (1, (e : Int)) := by
 unfold FK.oO FK.ir
 rw [kU h]
 simp only [FK.andThen, h2]
theorem wE {bs : List UInt8} {n q q' : Nat} {ns : List FK.Node} (h : FK.rd bs 0 = .ok (n, q)) (h2 : FK.dB bs (FK.fw bs) q = .ok (ns, q')) : FK.ir bs 0 = .ok (⟨n, ns⟩, q') := by
 unfold FK.ir
 rw [kU h]
 simp only [FK.andThen, h2]
theorem zM {bs : List UInt8} {f : FK.Flow} {q : Nat} (h : FK.ir bs 0 = .ok (f, q)) (hq : q < bs.length) : FK.oO bs = .error (1, (q : Int)) := by
 unfold FK.oO
 rw [h]
 simp only [hq, if_true]
theorem Bf {bs : List UInt8} {f : FK.Flow} {q : Nat} (h : FK.ir bs 0 = .ok (f, q)) (hq : ¬ q < bs.length) (hc : (FK.chk f).1 ≠ 0) : FK.oO bs = .error ((FK.chk f).1, (FK.chk f).2) := by
 unfold FK.oO
 rw [h]
 simp only [hq, if_false, hc]
theorem zN {bs : List UInt8} {f : FK.Flow} {q : Nat} (h : FK.ir bs 0 = .ok (f, q)) (hq : ¬ q < bs.length) (hc : (FK.chk f).1 = 0) : FK.oO bs = .ok f := by
 unfold FK.oO
 rw [h]
 simp only [hq, if_false, hc, if_true]
variable {G : Env → Prop}
set_option maxRecDepth 10000 in
theorem om (b2 b3 : Nat) (x y z : Value) : DoesD Tryz.prog G 150 [.pointer (some ⟨b2, 0, none⟩), .pointer (some ⟨b3, 0, none⟩)].toArray .returning .returning [blk b2 29 #[x, y], blk b3 109 #[z]]
 fun m => m = [blk b2 29 #[x, y], blk b3 109 #[z]] := by
 refine DoesD.recover (v := .nilIface) Tryz.func150 Z Z Z (.inl ⟨rfl, rfl, rfl⟩) fun E fr hE => ?_
 refine aF (At.block (At.seq (At.region (L.pure Z (g0 Z Z) (L.nil (At.then (aR Z (At.region (L.as Z Z (L.nil (al ?_)))))))))))
 exact aZ [_, _] rfl ⟨rfl, rfl⟩ (Ent.refl _)
set_option maxRecDepth 10000 in
theorem lR (b2 b3 e : Nat) (x y z : Value) : DoesD Tryz.prog G 150 [.pointer (some ⟨b2, 0, none⟩), .pointer (some ⟨b3, 0, none⟩)].toArray (.panicking (uU e)) (.panicking [{ v := .iface 237 (.int .i64 e), recovered := true }]) [blk b2 29 #[x, y], blk b3 109 #[z]]
 fun m => ∃ b, m = [blk b2 29 #[.int .i64 0, .slice none 0 0], blk b3 109 #[.iface 159 (.pointer (some ⟨b, 0, none⟩))], blk b 164 #[.int .i64 1, .int .i64 e]] := by
 refine DoesD.recover (v := .iface 237 (.int .i64 e)) Tryz.func150 Z Z Z (.inr ⟨[], rfl, rfl⟩) fun E fr hE => ?_
 refine aF (At.block (At.seq (At.region (L.pure Z (co Z Z) (L.nil (At.then (aj Z (At.seq (At.region (L.pure Z (ev_as Z Z Z) (L.ex Z Z Z (L.ex Z Z Z (L.nil (At.then (aR Z (At.seq (At.region (L.as Z Z (L.nil ?_)))))))))))))))))))
 refine At.then (At.region (L.pure Z (bg (ps := []) (vs := []) (cs := #[.int .i64 0, .slice none 0 0]) Z Z Z Z Z) (L.mv Z Z (L.pure Z (bg (ps := [(0, .const (.int .i64 1)), (1, .tmp 12)]) (vs := [.int .i64 1, .int .i64 e]) (cs := #[.int .i64 1, .int .i64 e]) Z Z Z Z Z) (L.op Z (cc Z Z fun b14 => (L.pure Z (cG Z Z Z) ?_)))))))
 refine L.op Z (aG Z (m := 2) (vs := [.int .i64 0, .slice none 0 0]) Z Z Z Z (by simp [Value.oneCell']) (by simp) ?_)
 refine L.st Z Z Z Z (by simp) ?_
 refine L.nil (al ?_)
 exact aZ [_, _, _] rfl ⟨rfl, b14, rfl⟩ (Ent.perm (List.Perm.swap _ _ _))
end Go.Proofs.YtmeegfamopaljaaGreatDoor

namespace Go.Proofs.YtmeegfamopaljaaGreatDoor
open Go Go.RowKit Go.SL
def zW (bs : List UInt8) (p : HP) (v : Value) (m : List HP) : Prop :=
 (∃ (f : FK.Flow) (A' : Option Addr) (c' : Nat), FK.oO bs = .ok f ∧ (∀ nd ∈ f.nodes, Small nd) ∧ v = .tuple #[.agg #[.int .i64 f.deadline, .slice A' f.nodes.length c'], .nilIface] ∧ m = [nodesOwn (.slice A' f.nodes.length c') f.nodes, p]) ∨
 (∃ (e a : Int) (b : Nat), FK.oO bs = .error (e, a) ∧ e ≠ 0 ∧ v = .tuple #[.agg #[.int .i64 0, .slice none 0 0], .iface 159 (.pointer (some ⟨b, 0, none⟩))] ∧ m = [blk b 164 #[.int .i64 e, .int .i64 a], p])
set_option maxRecDepth 10000 in
theorem pj {p : HP} {A : Option Addr} {c : Nat} {bs : List UInt8} (hp : Reads p A bs) (hl : bs.length ≤ 1099511627776) :
 Does Tryz.prog Good 93 [.slice A bs.length c].toArray [p] (zW bs p) := by
 refine kC Tryz.func93 Z Z fun E fr hE => ?_
 refine ai (At.seq (At.region (L.op Z (aH (z := .agg #[.int .i64 0, .slice none 0 0]) Z Z fun b2 => (L.op Z (aH (z := .nilIface) Z Z fun b3 => (L.nil (At.then (At.seq (At.region ?_))))))))))
 refine L.pure Z (ea Z Z) ?_
 refine L.op Z (qm Z (L.nil (At.then (At.seq (At.region (L.mv Z Z (L.pure Z (bg (ps := [(0, .tmp 7)]) (vs := [.slice A bs.length c]) (cs := #[.slice A bs.length c, .int .i64 0]) Z Z Z Z Z) (L.op Z (cc Z Z fun b9 => (L.as Z Z (L.nil (At.then (At.seq (At.region (L.mv Z Z ?_)))))))))))))))
 refine L.op Z (jN Z Z Z hE (eT (c := c) hp hl b9 0 (Nat.zero_le _)) (aK .head (.tail (.tail (.head)))) ?_ ?_)
 ·
  rintro c m ⟨e, q', he, rfl, rfl⟩
  refine aF (ce (lW Z Z hE (lR b2 b3 e _ _ _) (aK (.tail (.tail (.tail (.head)))) (.tail (.tail (.head)))) ?_))
  rintro m ⟨b, rfl⟩
  refine cu ?_
  exact eW [_, _] rfl (bU (vs := [.int .i64 0, .slice none 0 0]) Z Z Z Z (av Z)) (eF Z Z (ae Z)) (.inr ⟨1, e, b, zO he, by omega, rfl, rfl⟩) (Ent.drop.trans (Ent.drop.trans (Ent.cons Ent.drop)))
 rintro v m ⟨n, q1, hn, rfl, rfl⟩
 refine aF (aE 0 Z Z Z ?_)
 refine L.st Z Z Z Z (by first | decide | simp | (simp; omega)) ?_
 refine L.nil (At.then (At.seq (At.region (L.mv Z Z (L.mv Z Z ?_)))))
 refine L.pure Z (ea Z Z) ?_
 refine L.op Z (jN Z Z Z hE (wW (c := c) hp hl b9 q1 (FK.qY hn).2.2) (aK (.tail (.head)) (.tail (.head))) ?_ ?_)
 ·
  rintro c m ⟨e, q', he, rfl, rfl⟩
  refine aF (ce (lW Z Z hE (lR b2 b3 e _ _ _) (aK (.tail (.tail (.head))) (.tail (.tail (.head)))) ?_))
  rintro m ⟨b, rfl⟩
  refine cu ?_
  exact eW [_, _] rfl (bU (vs := [.int .i64 0, .slice none 0 0]) Z Z Z Z (av Z)) (eF Z Z (ae Z)) (.inr ⟨1, e, b, tZ hn he, by omega, rfl, rfl⟩) (Ent.drop.trans (Ent.drop.trans (Ent.cons Ent.drop)))
 rintro v m ⟨ns, q2, hns, hq2, hsm, ⟨A', c', rfl⟩, rfl⟩
 refine cu (aE 1 Z Z Z ?_)
 refine L.st Z Z Z Z (by simp [Value.cells]) ?_
 have hflow := wE hn hns
 refine L.nil (At.then (At.seq (At.seq (At.region (L.mv Z Z (aN Z Z (aE 1 Z Z Z (aX Z Z Z Z (L.mv Z Z (L.pure Z (aP Z Z) (L.pure Z (bf Z Z Z) (L.nil (At.then ?_)))))))))))))
 refine aC Z (fun c24 => ?_) (fun c24 => ?_)
 ·
  refine At.region (L.mv Z Z (aN Z Z (aE 1 Z Z Z (aX Z Z Z Z (L.pure Z (cG Z Z Z) (L.op Z (vo Z (ce (lW Z Z hE (lR b2 b3 q2 _ _ _) (aK .head (.tail (.tail (.tail (.head))))) ?_)))))))))
  rintro m ⟨b, rfl⟩
  refine cu ?_
  exact eW [_, _] rfl (bU (vs := [.int .i64 0, .slice none 0 0]) Z Z Z Z (av Z)) (eF Z Z (ae Z)) (.inr ⟨1, q2, b, zM hflow (by omega), by omega, rfl, rfl⟩) (Ent.drop.trans (Ent.drop.trans (Ent.cons (Ent.drop.trans Ent.drop))))
 ·
  refine At.skip (At.then (At.seq (At.seq ?_)))
  by_cases hc0 : (FK.chk ⟨n, ns⟩).1 = 0
  ·
   refine At.region (L.val Z (am (vs := [.int .i64 n, .slice A' ns.length c']) Z Z Z Z) (av Z) ?_)
   refine L.op Z (dC Z Z Z hE (gh ⟨n, ns⟩ A' c') (nodesOwn.at (.tail (.head)) fun nd db => (hsm nd db).i64) ?_)
   rintro v m hv
   obtain ⟨rfl, rfl⟩ := hv.ok hc0
   refine ay (L.as Z Z (L.nil (At.then (At.seq (At.region (L.mv Z Z (L.pure Z (cb Z Z) (L.nil (At.then (aj Z (At.skip (At.then (At.seq (At.region (L.val Z (am (vs := [.int .i64 n, .slice A' ns.length c']) Z Z Z Z) (av Z) ?_)))))))))))))))
   refine L.op Z (aG Z (m := 2) (vs := [.int .i64 n, .slice A' ns.length c']) Z Z Z Z (by simp [Value.oneCell']) (by simp [Value.cells]) ?_)
   refine L.st Z Z Z Z (by first | decide | simp | (simp; omega)) ?_
   refine L.nil (At.then (At.ret (At.leave (.inl Z) Z Z hE (om b2 b3 _ _ _) (aK (.tail (.head)) .head) ?_)))
   rintro m rfl
   refine aF ?_
   exact eW [_, _] rfl (bU (vs := [.int .i64 n, .slice A' ns.length c']) Z Z Z Z (av Z)) (eF Z Z (ae Z)) (.inl ⟨⟨n, ns⟩, A', c', zN hflow (by omega) hc0, hsm, rfl, rfl⟩) (Ent.drop.trans (Ent.drop.trans (Ent.cons Ent.drop)))
  ·
   refine At.region (L.val Z (am (vs := [.int .i64 n, .slice A' ns.length c']) Z Z Z Z) (av Z) ?_)
   refine L.op Z (dC Z Z Z hE (gh ⟨n, ns⟩ A' c') (nodesOwn.at (.tail (.head)) fun nd db => (hsm nd db).i64) ?_)
   rintro v m hv
   obtain ⟨b, rfl, rfl⟩ := hv.bad hc0
   refine ai (L.as Z Z (L.nil (At.then (At.seq (At.region (L.mv Z Z (L.pure Z (fg Z Z) (L.nil (At.then (aR Z (At.seq (At.region (L.pure Z (bg (ps := []) (vs := []) (cs := #[.int .i64 0, .slice none 0 0]) Z Z Z Z Z) (L.mv Z Z ?_))))))))))))))
   refine L.op Z (aG Z (m := 2) (vs := [.int .i64 0, .slice none 0 0]) Z Z Z Z (by simp [Value.oneCell']) (by simp [Value.cells]) ?_)
   refine L.st Z Z Z Z (by first | decide | simp | (simp; omega)) ?_
   refine L.nil (At.then (At.ret (aI (At.leave (.inl Z) Z Z hE (om b2 b3 _ _ _) (aK (.tail (.head)) .head) ?_))))
   rintro m rfl
   refine aF ?_
   exact eW [_, _] rfl (bU (vs := [.int .i64 0, .slice none 0 0]) Z Z Z Z (av Z)) (eF Z Z (ae Z)) (.inr ⟨_, _, b, Bf hflow (by omega) hc0, hc0, rfl, rfl⟩) (Ent.drop.trans (Ent.drop.trans (Ent.cons (Ent.drop.trans Ent.drop))))
end Go.Proofs.YtmeegfamopaljaaGreatDoor

namespace Go.Proofs.YtmeegfamopaljaaGreatDoor
open Go Go.RowKit Go.SL
theorem zz (u w : Value) (hu : u.oneCell' = true) (hw : w.oneCell' = true) (z : Value) (hz : z.cells.size = 1) : Instr.fill (fun i => some (i * 1, 1)) (Array.map (fun x => z.cells[x % z.cells.size]!) (Array.range (2 * 1))) ((List.map (fun x => x.fst) [((0 : Nat), Operand.tmp 30), (1, .tmp 31)]).zip [u, w]) = some #[u, w] := by
 have e1 : Array.range (2 * 1) = #[0, 1] := rfl
 rw [e1]
 simp [Instr.fill, gH hu, gH hw, hz]
def jd (f e j d : Nat) (p : EA) (S : FK.En) (J : FK.Jn) (σ : FK.Dsk) (bs : List UInt8) (fl : FK.Flow) (pb : HP) (v : Value) (m : List HP) : Prop :=
 ((J.add σ (cV (FK.frame (1 :: bs)))).2.2 = 0 ∧ ∃ S0 p', FK.qX S S0 ∧ v = .tuple #[bc (S.lastRun + 1), .nilIface] ∧ m = cE f e j d p' (S0.submit fl) (J.add σ (cV (FK.frame (1 :: bs)))).1 (J.add σ (cV (FK.frame (1 :: bs)))).2.1 ++ [pb]) ∨
 ((J.add σ (cV (FK.frame (1 :: bs)))).2.2 ≠ 0 ∧ v = .tuple #[bc 0, eR (J.add σ (cV (FK.frame (1 :: bs)))).2.2] ∧ m = cE f e j d p S (J.add σ (cV (FK.frame (1 :: bs)))).1 (J.add σ (cV (FK.frame (1 :: bs)))).2.1 ++ [pb])
set_option maxRecDepth 10000 in
set_option maxHeartbeats 2000000 in
theorem qM {f e j d : Nat} {p : EA} {S : FK.En} {J : FK.Jn} {σ : FK.Dsk} {pb : HP} {A : Option Addr} {c : Nat} {bs : List UInt8} {fl : FK.Flow} (h : FK.Ok S) (hJ : J.n < 1000000) (hr : Roomy σ) (hp : Reads pb A bs) (hA : A = none → bs = []) (hl : bs.length ≤ 1000000000) (hd : FK.oO bs = .ok fl) (hfit : FK.Fit fl) (hroom : S.roomy = true) (hsets : S.sets < 9223372036854775807) (hlr : S.lastRun < 9223372036854775807) : Does Tryz.prog Good 50 [aL f, .slice A bs.length c].toArray (cE f e j d p S J σ ++ [pb]) (jd f e j d p S J σ bs fl pb) := by
 have h12 := hfit.head.2.2
 have h1 := hfit.head.2.1
 obtain ⟨hd1, hd2⟩ := hfit.head.1
 refine Does.body Tryz.func50 Z Z fun E fr hE => ?_
 refine bV (At.seq (At.region (L.as Z Z (L.as Z Z (L.nil (At.then (At.seq (At.region (L.mv Z Z ?_)))))))))
 refine L.op Z (ah Z Z Z hE (pj hp (by omega)) (Ent.sel (.tail (.tail (.tail (.tail .head))))) ?_)
 rintro v m hv
 obtain ⟨A', c', hsm, rfl, rfl⟩ : ∃ A' c', (∀ nd ∈ fl.nodes, Small nd) ∧ v = .tuple #[.agg #[.int .i64 fl.deadline, .slice A' fl.nodes.length c'], .nilIface] ∧ m = [nodesOwn (.slice A' fl.nodes.length c') fl.nodes, pb] := by
  rcases hv with ⟨f', A', c', hd', hsm, hv, hm⟩ | ⟨e', a', b', hd', _⟩
  · rw [hd] at hd'
    injection hd' with hd'
    subst hd'
    exact ⟨A', c', hsm, hv, hm⟩
  · rw [hd] at hd'
    cases hd'
 refine aF (L.mv Z Z (L.ex Z Z Z (L.ex Z Z Z (L.op Z (aH (z := .agg #[.int .i64 0, .slice none 0 0]) Z Z fun b6 => ?_)))))
 refine L.op Z (aG Z (m := 2) (vs := [.int .i64 fl.deadline, .slice A' fl.nodes.length c']) Z Z Z Z (by simp [Value.oneCell']) (by simp [Value.cells]) ?_)
 refine ax b6 #[.int .i64 fl.deadline, .slice A' fl.nodes.length c'] rfl (L.as Z Z (L.nil (At.then (At.seq (At.block (At.seq (At.region (L.mv Z Z (L.pure Z (cb Z Z) (L.as Z Z (L.nil (At.then (aj Z (At.seq (At.region (L.mv Z Z (aN Z Z (aE 0 Z Z Z (aX Z Z Z Z ?_)))))))))))))))))))
 refine L.op Z (ah Z Z Z hE wq (Ent.sel HasEng.sel) ?_)
 rintro v m ⟨rfl, rfl⟩
 refine ai ?_
 rw [show (S.runs.any (fun r => decide (0 < r.2.ended)) || decide (S.runs.length < 6)) = true from hroom]
 refine L.pure Z (ck Z Z) (L.as Z Z (L.nil (At.then (aj Z (At.skip (al (At.then (At.seq (At.seq (At.ent (l' := ap e p S :: blk b6 29 #[.int .i64 fl.deadline, .slice A' fl.nodes.length c'] :: nodesOwn (.slice A' fl.nodes.length c') fl.nodes :: pb :: dA f e j :: aD j d J :: ak d σ :: fr) (Ent.refl _) (Dr.start Z (dP 0 Z Z (ag Z) (dP 1 Z Z (aq Z) (dP 2 Z Z (ab (off := 1) Z Z) (dL 3 Z Z (aa Z Z) (ae Z) (dP 5 Z Z (ag Z) (dR 4 Z Z (cK Z Z Z Z Z Z fun b30 => ?_))))))))))))))))))
 refine Dr.kept [true] (by kernel_rfl) (Kept.cons (ae Z) Kept.nil) ?_
 refine dR 6 Z Z (dT (m := 2) (z := .slice none 0 0) (size := 1) (ps := [(0, .tmp 30), (1, .tmp 31)]) (vs := [.slice (some ⟨b30, 0, none⟩) 1 1, .slice A bs.length c]) (cs := #[.slice (some ⟨b30, 0, none⟩) 1 1, .slice A bs.length c]) Z Z Z Z (by omega) (by omega) Z (zz _ _ Z Z _ Z) fun b32 => ?_)
 refine Dr.kept [true] (by kernel_rfl) (Kept.cons (ae Z) Kept.nil) ?_
 refine dR 7 rfl rfl (ah rfl rfl rfl hE (s3 (A1 := some ⟨b30, 0, none⟩) (bs1 := [1]) (p1 := bM (.slice (some ⟨b30, 0, none⟩) 1 1) [1]) 1 c (Reads.row (c := 1) fun _ => ⟨b30, rfl⟩) (fun h => by cases h) hp hA (by simp; omega) (by simp; omega)) ((Ent.cons ((pI (b := b30) (bs := [1]) (by unfold maxLen; simp)).trans (Ent.cons (Ent.sel (.tail (.tail (.tail .head)))))))) ?_)
 rintro v m rfl
 refine cu (aJ .head ?_)
 rintro A33 c33 rfl f1 f2 - - -
 obtain ⟨hreads, hnil⟩ := gZ f1 f2
 refine Dr.kept [true] (by kernel_rfl) (Kept.cons (ae Z) Kept.nil) ?_
 refine dR 8 Z Z (ah Z Z Z hE (rZ c33 hJ hreads hnil (by simp; omega) hr) ((bX (.tail (.tail (.tail (.tail (.tail (.tail (.tail .head))))))) (.tail (.tail (.tail (.tail (.tail (.tail (.tail .head))))))) .head)) ?_)
 rintro v m ⟨hv, rfl⟩
 refine cu ?_
 rw [show ([1] ++ bs : List UInt8) = 1 :: bs from rfl] at hv ⊢
 generalize hω : J.add σ (cV (FK.frame (1 :: bs))) = ω at hv ⊢
 refine Dr.kept [false] (by kernel_rfl) Kept.nil ?_
 refine dP 9 Z Z (az Z) (dE (At.then (At.seq ?_)))
 by_cases HE : ω.2.2 = 0
 ·
  replace hv := hv.trans (if_pos HE)
  subst hv
  refine At.region (L.mv Z Z (L.pure Z (cb Z Z) (L.nil (At.then (aj Z (At.skip (At.then (At.seq (Dr.start Z (dP 0 Z Z (ag Z) (dP 1 Z Z (aq Z) (dP 2 Z Z (ab (off := 0) Z Z) (dL 3 Z Z (aa Z Z) (ae Z) (dL 4 Z Z (am (vs := [.int .i64 fl.deadline, .slice A' fl.nodes.length c']) Z Z Z Z) (av Z) ?_))))))))))))))
  refine dR 5 Z Z (ah Z Z Z hE (mg (nv := .slice A' fl.nodes.length c') h1 (by omega) hfit.after (by omega) (by omega) h.now (by have := h.queueLe; omega) (by have := h.tmsLe; omega) hsets (fun r hr => (h.low r.1 (List.mem_map_of_mem (f := (·.1)) hr)).2) hlr) (aK HasEng.sel (.tail (.tail (.tail (.tail (.tail (.tail .head))))))) ?_)
  rintro v m ⟨S0, p', hcut, rfl, rfl⟩
  refine ai ?_
  refine Dr.kept [false, false] (by kernel_rfl) Kept.nil ?_
  refine dP 6 Z Z (az Z) (dP 7 Z Z (az Z) (dE (At.then (At.ret ?_))))
  refine dd (cE f e j d p' (S0.submit fl) ω.1 ω.2.1 ++ [pb]) Z Z Z (by unfold jd; rw [hω]; exact .inl ⟨HE, S0, p', hcut, rfl, rfl⟩) ?_
  show Ent _ (dA f e j :: ap e p' _ :: aD j d ω.1 :: ak d ω.2.1 :: pb :: fr)
  exact ao
 ·
  replace hv := hv.trans (if_neg HE)
  subst hv
  refine At.region (L.mv Z Z (L.pure Z (fg Z Z) (L.nil (At.then (aR Z (At.seq (At.region (L.mv Z Z (L.as Z Z (L.as Z Z (L.nil (At.then (At.ret (aI ?_))))))))))))))
  refine dd (cE f e j d p S ω.1 ω.2.1 ++ [pb]) Z Z Z (by unfold jd; rw [hω]; exact .inr ⟨HE, by unfold eR; rw [if_neg HE]; rfl, rfl⟩) ?_
  show Ent _ (dA f e j :: ap e p _ :: aD j d ω.1 :: ak d ω.2.1 :: pb :: fr)
  exact ao
end Go.Proofs.YtmeegfamopaljaaGreatDoor
