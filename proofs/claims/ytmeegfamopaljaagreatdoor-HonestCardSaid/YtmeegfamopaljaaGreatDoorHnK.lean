/- The power fails, and the engine comes again. -/
import Derived.Test.YtmeegfamopaljaaGreatDoorHnJ
import Derived.Test.YtmeegfamopaljaaGreatDoorHnI
import Derived.Test.YtmeegfamopaljaaGreatDoorHnB
import Derived.Test.YtmeegfamopaljaaGreatDoorHnC
import Derived.Test.YtmeegfamopaljaaGreatDoorHnD
import Derived.Test.YtmeegfamopaljaaGreatDoorHnH
set_option maxHeartbeats 1000000
set_option maxRecDepth 10000
namespace Go.Proofs.YtmeegfamopaljaaGreatDoor
open Go Go.RowKit Go.SL
variable {G : Env → Prop}
section
variable {l : List (List UInt8)} {d : Nat} {U : FK.En}
theorem um (c : Int) (n : Nat) (hc : i64 c) (hn : 0 < n) (hn2 : n < 9223372036854775808) : Does Tryz.prog G 130 [.int .i64 c, .int .i64 n].toArray [] fun v m => ∃ k : Int, v = .int .i64 k ∧ (0 ≤ k ∧ k < n) ∧ m = [] := by
 have hc' := hc
 unfold i64 at hc'
 refine Does.body Tryz.func130 Z Z fun E fr hE => ?_
 refine aL (At.seq (At.region (L.as Z Z (L.nil (At.then ?_)))))
 refine At.seq (At.cut (X := Int) (fun x => [(0, .int .i64 x), (1, .int .i64 n)]) (fun _ => fr) (fun x => 0 ≤ x) ?_ ?_)
 ·
  refine At.seq (At.region (L.mv Z Z (L.pure Z (bl Z Z Z) (L.nil (At.then ?_)))))
  refine aE Z (fun c6 => ?_) (fun c6 => ?_)
  ·
   refine At.region (L.mv Z Z (L.pure Z (aS Z Z (dd (by omega))) (L.pure Z (yA Z (dd (by omega))) (L.as Z Z (L.nil ?_)))))
   exact bb _ (by omega) ⟨rfl, rfl, trivial⟩ (Ent.refl _)
  ·
   refine At.skip ?_
   exact bb c (by omega) ⟨rfl, rfl, trivial⟩ (Ent.refl _)
 intro x hx
 refine At.seq (At.region (L.mv Z Z (L.mv Z Z (L.pure Z (kI Z Z (by omega) Z) (L.as Z Z (L.nil (At.then (At.ret ?_))))))))
 exact aA [] rfl Z ⟨_, rfl, ⟨Int.tmod_nonneg _ hx, Int.tmod_lt_of_pos _ (by omega)⟩, rfl⟩ (Ent.refl _)
theorem uY {σ : FK.Dsk} {kept part : Int} (hp : σ.pend = []) (hn : (σ.dur.map (·.1)).Nodup) (h2 : i64 part) : Does Tryz.prog G 81 [aO d, .int .i64 kept, .int .i64 part].toArray [ak d σ] fun v m => v = .tuple #[] ∧ ∃ now', now'.Perm σ.dur ∧ m = [ak d ⟨σ.dur, now', [], -1, -1, false⟩] := by
 obtain ⟨dur, now, pend, left, full, down⟩ := σ
 simp only at hp hn
 subst hp
 refine Does.body Tryz.func81 Z Z fun E fr hE => ?_
 refine ai ?_
 refine At.ex .head fun q => bq ?_
 obtain ⟨md, mn, pv, P⟩ := q
 refine At.ent (l' := blk d 131 #[.map (some md), .map (some mn), pv, .int .i64 left, .int .i64 full, .bool down] :: aX md P dur :: aX mn P now :: dt P :: row 211 3 pv 0 [] :: fr) (Ent.refl _) ?_
 refine aC (.tail (.tail (.tail (.tail .head)))) ?_
 rintro A c rfl - - - - -
 refine At.seq (At.region (L.mv Z Z (L.mv Z Z (aR Z Z (aI 2 Z Z Z (bd Z Z Z Z (L.pure Z (aM Z Z) (L.pure Z (aS (r := 1) Z Z Z) ?_))))))))
 refine L.op Z (ah Z Z Z hE (um part 1 h2 (by omega) (by omega)) (Ent.refl _) ?_)
 rintro v m ⟨k, rfl, -, rfl⟩
 refine aL (L.as Z Z (L.nil (At.then (At.seq (At.region (L.op Z (fZ bH Z fun b18 => (L.as Z Z (L.nil (At.then (At.seq (At.seq (At.region (L.mv Z Z (aR Z Z (aI 2 Z Z Z (bd Z Z Z Z (L.pure Z (aM Z Z) (L.mv Z Z (L.nil ?_))))))))))))))))))))
 refine At.then (At.block ?_)
 refine bk (X := Nat) (fun _ => [(24, .int .i64 0), (23, .int .i64 0), (0, aO d)]) (fun _ => bP bH b18 [] :: blk d 131 #[.map (some md), .map (some mn), .slice A 0 c, .int .i64 left, .int .i64 full, .bool down] :: aX md P dur :: aX mn P now :: dt P :: row 211 3 (.slice A 0 c) 0 [] :: fr) (fun _ => True) (fun _ => 0) 0 trivial ⟨rfl, rfl, rfl, trivial⟩ (Ent.refl _) ?_
 intro k hk
 refine At.seq (At.region (L.pure Z (bl Z Z Z) (L.nil (At.then (At.seq (aj Z (At.exit (az (ay (ar (At.then (At.seq (At.region (L.mv Z Z (L.mv Z Z (aR Z Z (aI 3 Z Z Z ?_)))))))))))))))))
 refine L.st Z Z Z Z (by first | decide | simp | (simp; omega)) ?_
 refine aR Z Z (aI 4 Z Z Z ?_)
 refine L.st Z Z Z Z (by first | decide | simp | (simp; omega)) ?_
 refine aD d #[.map (some md), .map (some mn), .slice A 0 c, .int .i64 (-1), .int .i64 (-1), .bool down] rfl (L.nil (At.then (At.region (L.mv Z Z ?_))))
 refine L.op Z (ah Z Z Z hE (vp hn) (Ent.cons (aP (.tail .head) (.tail (.tail .head)))) ?_)
 rintro v m ⟨rfl, now', hpn, rfl⟩
 refine ai (L.nil (bm [ak d ⟨dur, now', [], -1, -1, false⟩] rfl ⟨rfl, now', hpn, rfl⟩ ?_))
 show Ent _ (ak d ⟨dur, now', [], -1, -1, false⟩ :: fr)
 exact al
theorem tt {kept part : Int} (h2 : i64 part) : Does Tryz.prog G 81 [aO d, .int .i64 kept, .int .i64 part].toArray [ak d (FK.cw l 1)] fun v m => v = .tuple #[] ∧ m = [ak d (FK.cw l 1)] :=
 (uY (σ := FK.cw l 1) rfl (by simp [FK.cw]) h2).mono fun v m ⟨hv, now', hp, hm⟩ => ⟨m, ⟨hv, by
  have : now' = (FK.cw l 1).dur := List.perm_singleton.1 hp
  subst this
  exact hm⟩, Ent.refl _⟩
theorem uH {h f e j : Nat} {p : EA} {S : FK.En} {J : FK.Jn} {kept part : Int} (h2 : i64 part) : Does Tryz.prog G 35 [aO h, .int .i64 kept, .int .i64 part].toArray (bC h f e j d p S J (FK.cw l 1)) fun v m => v = .tuple #[] ∧ m = [eW h d none, ak d (FK.cw l 1)] := by
 refine Does.body Tryz.func35 Z Z fun E fr hE => ?_
 refine bF (At.seq (At.region (L.mv Z Z (aR Z Z (aI 1 Z Z Z ?_)))))
 refine L.st Z Z Z Z (by first | decide | simp | (simp; omega)) ?_
 refine aD h #[aO d, .pointer none] rfl (L.nil (At.then (At.region (L.mv Z Z (aR Z Z (aI 0 Z Z Z (bd Z Z Z Z (L.mv Z Z (L.mv Z Z ?_)))))))))
 refine L.op Z (ah Z Z Z hE (tt h2) (Ent.sel (.tail (.tail (.tail (.tail .head))))) ?_)
 rintro v m ⟨rfl, rfl⟩
 refine ai (L.nil (bm [eW h d none, ak d (FK.cw l 1)] rfl ⟨rfl, rfl⟩ ?_))
 show Ent _ (eW h d none :: ak d (FK.cw l 1) :: fr)
 exact al
theorem s3 (hl : (FK.bI l).length ≤ 1000000000) (hR : FK.Reds FK.En.fresh l U) : Does Tryz.prog Good 63 [mV d].toArray [ak d (FK.cw l 1)] fun v m => ∃ f e j p, v = .tuple #[aO f, .nilIface] ∧ m = cd f e j d p U FK.J0 (FK.cw l 3) := by
 refine Does.body Tryz.func63 Z Z fun E fr hE => ?_
 refine ai (At.seq (At.region (L.as Z Z (L.as Z Z (L.nil (At.then (At.seq (At.region ?_))))))))
 refine L.op Z (ah Z Z Z hE vE (Ent.refl _) ?_)
 rintro v m ⟨e, p, rfl, rfl⟩
 refine ai (L.pure Z (bn (ps := [(0, .tmp 8)]) (vs := [aO e]) (cs := #[aO e, .pointer none]) Z Z Z Z Z) (L.op Z (cb Z Z fun b10 => (L.op Z (aN (z := .pointer none) Z Z fun b4 => ?_)))))
 refine L.st Z Z Z Z (by first | decide | simp | (simp; omega)) ?_
 refine aD b4 #[aO b10] rfl (aD b10 #[aO e, .pointer none] rfl ?_)
 refine At.ent (l' := blk b4 116 #[aO b10] :: gx b10 e (.pointer none) :: ap e p FK.En.fresh :: ak d (FK.cw l 1) :: fr) al ?_
 refine L.nil (At.then (At.seq (At.region (L.mv Z Z ?_))))
 refine L.pure Z (eO Z Z) ?_
 refine bd Z Z Z Z ?_
 refine L.pure Z (eO Z Z) ?_
 refine L.op Z (ah Z Z Z hE (sM _ hl hR) (cc (.tail (.tail (.tail .head))) (.tail .head) (.tail .head)) ?_)
 rintro v m ⟨j, p', rfl, rfl⟩
 refine cB (L.mv Z Z (L.ex Z Z Z (L.ex Z Z Z (L.as Z Z (L.as Z Z (L.nil (At.then (At.seq (At.seq (At.region (L.mv Z Z (L.pure Z (co Z Z) (L.nil (At.then (aj Z (At.skip (At.then (At.seq (At.region ?_)))))))))))))))))))
 refine bd Z Z Z Z (L.mv Z Z (aR Z Z (aI 1 Z Z Z (L.st Z Z Z Z (by show 1 < 2; decide) ?_))))
 refine aD b10 #[aO e, aO j] rfl ?_
 refine At.ent (l' := au j d FK.J0 :: cD b10 e j :: ak d (FK.cw l 3) :: ap e p' U :: blk b4 116 #[aO b10] :: fr) al ?_
 refine L.nil (At.then (At.seq (At.seq (At.region (L.mv Z Z ?_)))))
 refine L.op Z (ah Z Z Z hE po (Ent.refl _) ?_)
 rintro v m ⟨rfl, rfl⟩
 refine ai (L.nil (At.then (aj Z (At.skip (At.then (At.seq (At.region (bd Z Z Z Z (L.as Z Z (L.as Z Z (L.nil (At.then (At.ret (cU (cd b10 e j d p' U FK.J0 (FK.cw l 3)) Z Z Z ⟨b10, e, j, p', rfl, rfl⟩ ?_))))))))))))))
 show Ent _ (cD b10 e j :: ap e p' U :: au j d FK.J0 :: ak d (FK.cw l 3) :: fr)
 exact al
theorem sR {h : Nat} (hl : (FK.bI l).length ≤ 1000000000) (hR : FK.Reds FK.En.fresh l U) : Does Tryz.prog Good 28 [aO h, eg].toArray [eW h d none, ak d (FK.cw l 1)] fun v m => v = .int .i64 0 ∧ ∃ f e j p, m = bC h f e j d p U FK.J0 (FK.cw l 1) := by
 refine Does.body Tryz.func28 Z Z fun E fr hE => ?_
 refine aJ (At.seq (At.region (L.op Z (cb Z Z fun b3 => (L.as Z Z (L.nil (At.then (At.seq (At.region (L.mv Z Z (L.val Z (ao (vs := bw (-1) (-1) 0 0) Z Z Z Z) (aw Z) ?_)))))))))))
 refine L.op Z (ah Z Z Z hE (df (-1) (-1) 0 0) (aP (.tail .head) (.tail .head)) ?_)
 rintro v m ⟨rfl, rfl⟩
 refine aJ ?_
 rw [jb (FK.kc l)]
 refine At.ent (l' := eW h d none :: ak d (FK.cw l 1) :: blk b3 41 (bw (-1) (-1) 0 0).toArray :: fr) (by show Ent (_ :: _ :: blk b3 41 (bw (-1) (-1) 0 0).toArray :: _) _; exact al) ?_
 refine L.nil (At.then (At.seq (At.region (L.mv Z Z (aR Z Z (aI 0 Z Z Z (bd Z Z Z Z (L.pure Z (cO Z Z Z) ?_))))))))
 refine L.op Z (ah Z Z Z hE (s3 hl hR) (Ent.sel (.tail .head)) ?_)
 rintro v m ⟨f, e, j, p, rfl, rfl⟩
 refine cB (L.mv Z Z (L.ex Z Z Z (L.ex Z Z Z (L.as Z Z (L.as Z Z (L.nil (At.then (At.seq (At.region (L.mv Z Z (L.mv Z Z (aR Z Z (aI 1 Z Z Z ?_)))))))))))))
 refine L.st Z Z Z Z (by first | decide | simp | (simp; omega)) ?_
 refine aD h #[aO d, aO f] rfl (L.nil (At.then (At.seq (At.seq (At.region (L.mv Z Z (L.pure Z (co Z Z) (L.nil (At.then (aj Z (At.skip (At.then (At.seq ?_)))))))))))))
 refine At.ent (l' := aW h d f :: ak d (FK.cw l 3) :: cD f e j :: ap e p U :: au j d FK.J0 :: blk b3 41 (bw (-1) (-1) 0 0).toArray :: fr) al ?_
 refine At.region (L.mv Z Z (L.val Z (ao (vs := bw (-1) (-1) 0 0) Z Z Z Z) (aw Z) ?_))
 refine L.op Z (ah Z Z Z hE (dA (σ := FK.cw l 3) (-1) (-1) 0 0 Z) (Ent.refl _) ?_)
 rintro v m ⟨rfl, rfl⟩
 refine aJ ?_
 rw [show (FK.cw l 3).rested = FK.cw l 1 from rfl]
 refine L.nil (At.then (At.seq (At.region (L.mv Z Z ?_))))
 refine L.op Z (ah Z Z Z hE f6 (Ent.refl _) ?_)
 rintro v m ⟨rfl, rfl⟩
 refine aL (L.as Z Z (L.nil (At.then (At.ret (aA (bC h f e j d p U FK.J0 (FK.cw l 1)) Z Z ⟨rfl, f, e, j, p, rfl⟩ ?_)))))
 show Ent _ (aW h d f :: cD f e j :: ap e p U :: au j d FK.J0 :: ak d (FK.cw l 1) :: fr)
 exact al
end
end Go.Proofs.YtmeegfamopaljaaGreatDoor

namespace Go.Proofs.YtmeegfamopaljaaGreatDoor
open Go Go.RowKit Go.SL
set_option maxRecDepth 10000 in
set_option maxHeartbeats 2000000 in
theorem lG {h f e j d : Nat} {p : EA} {S : FK.En} {J : FK.Jn} {σ : FK.Dsk} {pb : HP} {A : Option Addr} {c : Nat} {bs : List UInt8} {fl : FK.Flow} (hS : FK.Ok S) (hJ : J.n < 1000000) (hb : J.broken = 0) (hr : Roomy σ) (hQ : FK.Quiet σ) (hp : Reads pb A bs) (hA : A = none → bs = []) (hl : bs.length ≤ 1000000000) (hd : FK.pc bs = .ok fl) (hfit : FK.Fit fl) (hroom : S.roomy = true) (hsets : S.sets < 9223372036854775807) (hlr : S.CD < 9223372036854775807) :
 Does Tryz.prog Good 21 [aO h, .slice A bs.length c, eg].toArray (bC h f e j d p S J σ ++ [pb]) fun v m => v = .tuple #[aY (S.CD + 1), .int .i64 0, .int .i64 (-1)] ∧ ∃ S0 p', FK.rh S S0 ∧ m = bC h f e j d p' (S0.submit fl) J (σ.logs J.n (dr (FK.frame (1 :: bs)))) ++ [pb] := by
 have hadd := hQ.add hb (dr (FK.frame (1 :: bs)))
 refine Does.body Tryz.func21 Z Z fun E fr hE => ?_
 refine nn (At.seq (At.region (L.op Z (cb Z Z fun b5 => (L.as Z Z (L.as Z Z (L.as Z Z (L.nil (At.then (At.seq (At.seq (At.region (L.mv Z Z (aR Z Z (aI 1 Z Z Z (bd Z Z Z Z (L.pure Z (cX Z Z Z) (L.nil (At.then (aj Z ?_))))))))))))))))))))
 refine At.skip (At.then (At.seq (At.region (L.mv Z Z (L.val Z (ao (vs := bw (-1) (-1) 0 0) Z Z Z Z) (aw Z) ?_)))))
 refine L.op Z (ah Z Z Z hE (df (-1) (-1) 0 0) (aP (.tail .head) (.tail (.tail (.tail (.tail .head))))) ?_)
 rintro v m ⟨rfl, rfl⟩
 refine aJ ?_
 rw [jb hQ]
 refine At.ent (l' := pb :: cD f e j :: ap e p S :: au j d J :: ak d σ :: aW h d f :: blk b5 41 (bw (-1) (-1) 0 0).toArray :: fr) (by show Ent (_ :: _ :: blk b5 41 (bw (-1) (-1) 0 0).toArray :: _) _; exact al) ?_
 refine L.nil (At.then (At.seq (At.region (L.mv Z Z ?_))))
 refine At.ent (Ent.row0 (e := 5) (size := 1)) ?_
 refine L.op Z (cm (k := 0) (xs := []) Z Z ia Z (by omega) Z Z .head (news := bR bs) (by simp [bR]) (fun h => by rw [hA h]; rfl) (Reads.src hp (.tail .head)) (by simp [bR, Value.oneCell']) (by unfold maxLen; omega) (by omega) fun v24 hv24 => ?_)
 simp only [Nat.zero_add, List.nil_append]
 refine aC .head ?_
 rintro A9 c9 rfl f1 f2 - - -
 obtain ⟨hreads, hnil⟩ := il f1 f2
 refine L.as Z Z (L.nil (At.then (At.seq ?_)))
 refine At.ent (l' := cD f e j :: ap e p S :: au j d J :: ak d σ :: bO (.slice A9 bs.length c9) bs :: pb :: aW h d f :: blk b5 41 (bw (-1) (-1) 0 0).toArray :: fr) al ?_
 refine At.region (L.mv Z Z (aR Z Z (aI 1 Z Z Z (bd Z Z Z Z (L.mv Z Z ?_)))))
 refine L.op Z (ah Z Z Z hE (qW (pb := bO (.slice A9 bs.length c9) bs) hS hJ hr hreads hnil hl hd hfit hroom hsets hlr) (Ent.refl _) ?_)
 rintro v m hv
 obtain ⟨S0, p', hcut, rfl, rfl⟩ : ∃ S0 p', FK.rh S S0 ∧ v = .tuple #[aY (S.CD + 1), .nilIface] ∧ m = cd f e j d p' (S0.submit fl) J (σ.logs J.n (dr (FK.frame (1 :: bs)))).spent ++ [bO (.slice A9 bs.length c9) bs] := by
  unfold ju at hv
  rw [hadd] at hv
  rcases hv with ⟨_, S0, p', h1, h2, h3⟩ | ⟨h1, _⟩
  · exact ⟨S0, p', h1, h2, h3⟩
  · exact absurd Z h1
 refine bF (L.mv Z Z (L.ex Z Z Z (L.ex Z Z Z (L.as Z Z (L.as Z Z (L.nil (At.then (At.seq (At.seq (At.region (L.mv Z Z (L.pure Z (aM Z Z) (L.mv Z Z (L.nil (At.then (At.block ?_))))))))))))))))
 refine bk (X := Nat × List Value) (fun x => [(36, .int .i64 x.1), (35, .int .i64 bs.length), (9, .slice A9 bs.length c9), (10, aY (S.CD + 1)), (11, .nilIface), (5, aO b5), (0, aO h)]) (fun x => row 5 1 (.slice A9 bs.length c9) bs.length x.2 :: cD f e j :: ap e p' (S0.submit fl) :: au j d J :: ak d (σ.logs J.n (dr (FK.frame (1 :: bs)))).spent :: pb :: aW h d f :: blk b5 41 (bw (-1) (-1) 0 0).toArray :: fr) (fun x => x.1 ≤ bs.length) (fun x => bs.length - x.1) (0, bR bs) (Nat.zero_le _) ⟨rfl, rfl, rfl, rfl, rfl, rfl, rfl, trivial⟩ (Ent.sel (.tail (.tail (.tail (.tail .head))))) ?_
 rintro ⟨k, ys⟩ hk
 simp only at hk ⊢
 refine At.seq (At.region (L.pure Z (bl Z Z Z) (L.nil (At.then (At.seq ?_)))))
 refine aE Z (fun c37 => ?_) (fun c37 => ?_)
 ·
  have hlt : k < bs.length := by omega
  obtain ⟨g, rfl⟩ : ∃ g, A9 = some ⟨g, 0, none⟩ := by
   cases A9 with
   | none => have := (f1 rfl).1; omega
   | some ad => obtain ⟨g, rfl⟩ := f2 ad rfl; exact ⟨g, rfl⟩
  refine At.skip (At.then (At.seq (At.block (At.seq (At.region (L.mv Z Z (L.as Z Z (L.nil (At.then (At.region (L.mv Z Z (L.mv Z Z (L.pure Z (aT (z := 1) Z Z Z Z hlt) ?_)))))))))))))
  refine L.op Z (dZ .head Z Z Z Z (by omega) ?_)
  refine L.nil (an (At.then (At.region (L.pure Z (aS (r := ((k + 1 : Nat) : Int)) Z Z (by rw [dd (by omega)]; omega)) (L.mv Z Z (L.nil ?_))))))
  exact At.round (k + 1, _) (by simp only; omega) (by simp only; omega) ⟨rfl, rfl, rfl, rfl, rfl, rfl, rfl, trivial⟩ (Ent.refl _)
 ·
  refine At.exit (az (ay (ar (At.then (At.seq ?_)))))
  refine At.ent (l' := aW h d f :: ak d (σ.logs J.n (dr (FK.frame (1 :: bs)))).spent :: cD f e j :: ap e p' (S0.submit fl) :: au j d J :: pb :: blk b5 41 (bw (-1) (-1) 0 0).toArray :: fr) al ?_
  refine At.region (L.mv Z Z (L.val Z (ao (vs := bw (-1) (-1) 0 0) Z Z Z Z) (aw Z) ?_))
  refine L.op Z (ah Z Z Z hE (dA (σ := (σ.logs J.n (dr (FK.frame (1 :: bs)))).spent) (-1) (-1) 0 0 hQ.down) (Ent.refl _) ?_)
  rintro v m ⟨rfl, rfl⟩
  refine aJ ?_
  rw [qv (hQ.logs _ _)]
  refine L.nil (At.then (At.seq (At.region (L.mv Z Z ?_))))
  refine L.op Z (ah Z Z Z hE nF (Ent.refl _) ?_)
  rintro v m ⟨rfl, rfl⟩
  refine aL (L.mv Z Z (L.ex Z Z Z (L.ex Z Z Z (L.as Z Z (L.as Z Z (L.nil (At.then (At.seq (At.region (L.mv Z Z (L.mv Z Z (L.mv Z Z (L.as Z Z (L.as Z Z (L.as Z Z (L.nil (At.then (At.ret (f8 (bC h f e j d p' (S0.submit fl) J (σ.logs J.n (dr (FK.frame (1 :: bs)))) ++ [pb]) Z Z Z Z ⟨rfl, S0, p', hcut, rfl⟩ ?_)))))))))))))))))))
  show Ent _ (aW h d f :: cD f e j :: ap e p' (S0.submit fl) :: au j d J :: ak d (σ.logs J.n (dr (FK.frame (1 :: bs)))) :: pb :: fr)
  exact al
end Go.Proofs.YtmeegfamopaljaaGreatDoor

namespace FK
structure Dk (N : Nat) (σ : Dsk) : Prop where
 quiet : Quiet σ
 now : kW σ.now ≤ N
 dur : kW σ.dur ≤ N
theorem Dk.e0 : Dk 0 FK.e0 := ⟨nX, Nat.le_refl _, Nat.le_refl _⟩
theorem Dk.logs {N : Nat} {σ : Dsk} (h : Dk N σ) (n : Nat) {s : ByteArray} (hs : s.size ≤ 100000) : Dk (N + 100000) (σ.logs n s) := by
 have h1 := tJ σ.now ⟨2, bg n, s⟩
 have h2 := tJ σ.dur ⟨2, bg n, s⟩
 have h3 := h.now
 have h4 := h.dur
 refine ⟨h.quiet.logs n s, ?_, ?_⟩
 · show kW (dh σ.now ⟨2, bg n, s⟩) ≤ _
   simp only at h1
   omega
 · show kW (dh σ.dur ⟨2, bg n, s⟩) ≤ _
   simp only at h2
   omega
end FK
namespace Go.Proofs.YtmeegfamopaljaaGreatDoor
open Go Go.RowKit Go.SL
theorem fH {N : Nat} {σ : FK.Dsk} (h : FK.Dk N σ) (hN : N ≤ 1000000000000000) : Roomy σ := by
 have h1 := h.now
 have h2 := h.dur
 refine ⟨by omega, ?_, by rw [h.quiet.pend]; simp⟩
 rw [h.quiet.pend]
 simp [FK.gW]
 omega
theorem ie {N : Nat} {σ : FK.Dsk} (h : FK.Dk N σ) (J : FK.Jn) (op : Nat) {n : Nat} (hn : n < 18446744073709551616) : FK.Dk (N + 100000) (cH σ J op n) := by
 refine h.logs J.n ?_
 have h1 := eH hn
 have h2 : (FK.aV op n).length ≤ 11 := by unfold FK.aV; simp; omega
 have h3 := kl (FK.aV op n) (by omega)
 rw [jM]
 omega
theorem xF {N : Nat} {σ : FK.Dsk} (h : FK.Dk N σ) (n : Nat) {fl : FK.Flow} (hf : FK.Fit fl) : FK.Dk (N + 100000) (σ.logs n (dr (FK.frame (1 :: FK.bN fl)))) := by
 refine h.logs n ?_
 have h1 := hf.encLen
 have h3 := kl (1 :: FK.bN fl) (by simp; omega)
 rw [jM]
 simp only [List.length_cons] at h3
 omega
theorem uP (n1 n2 : FK.Node) (v1 v2 : Value) (_h1 : v1.oneCell' = true) (_h2 : v2.oneCell' = true) : Instr.fill (fun i => some (i * 7, 7)) (Array.map (fun x => (Value.agg #[.int .i64 0, .int .i64 0, .int .i64 0, .int .i64 0, .int .i64 0, .int .i64 0, .slice none 0 0]).cells[x % (Value.agg #[.int .i64 0, .int .i64 0, .int .i64 0, .int .i64 0, .int .i64 0, .int .i64 0, .slice none 0 0]).cells.size]!) (Array.range (2 * 7)))
 ((List.map (fun x => x.1) [((0 : Nat), Operand.tmp 34), (1, .tmp 36)]).zip [Value.agg (av n1 v1).toArray, Value.agg (av n2 v2).toArray]) = some (aZ [n1, n2] [v1, v2]).toArray := by
 have e1 : Array.range (2 * 7) = #[0, 1, 2, 3, 4, 5, 6, 7, 8, 9, 10, 11, 12, 13] := rfl
 rw [e1]
 simp [Instr.fill, av, Value.cells, aZ]
theorem zF {f : FK.Flow} (h : FK.Fit f) : lC f.CG := ⟨by have := h.head.2.2; omega, fun nd cN => by
 obtain ⟨i, hi⟩ := List.getElem?_of_mem cN
 have := FK.jr _ _ (h.CG i nd (FK.bU hi) hi).2
 have := h.head.2.2
 omega⟩
theorem uU {b37 b35 : Nat} {r : List HP} : Ent (blk b37 46 (aZ FK.flow2.CG [.slice none 0 0, .slice (some ⟨b35, 0, none⟩) 1 1]).toArray :: blk b35 3 #[.int .i64 0] :: r) (nodesOwn (.slice (some ⟨b37, 0, none⟩) 2 2) FK.flow2.CG :: r) := by
 refine Ent.trans ?_ (nodesOwn.ent (ns := FK.flow2.CG) (vs := [.slice none 0 0, .slice (some ⟨b35, 0, none⟩) 1 1]) Z)
 refine (Ent.cons ((eB (b := b35) (xs := [0]) (by simp [maxLen])).trans (Ent.row0 (e := 3) (size := 1)))).trans ?_
 exact cC (Nat.le_refl _) (by simp [maxLen]) Z Z
section
variable {h f e j d : Nat} {p : EA} {σ : FK.Dsk} {N : Nat}
theorem AN (hD : FK.Dk N σ) (hN : N ≤ 1000000000) : Does Tryz.prog Good 24 [aO h, eg].toArray (bC h f e j d p FK.o1 FK.J0 σ) fun v m => v = .tuple #[gc 1 0 1 1, .bool true, .int .i64 0] ∧ m = bC h f e j d p FK.o2 FK.J0 (cH σ FK.J0 2 0) := by
 have := fw (h := h) (f := f) (e := e) (j := j) (d := d) (p := p) (J := FK.J0) (id := 1) (k := 0) (q := []) (R := (FK.p9 1 ⟨2, 0, 0⟩ ⟨1, 0, 0⟩ 0)) (s := ⟨2, 0, 0⟩) (nd := ⟨2, 9, 0, 3, 9, 0, []⟩) FK.o1_ok (by decide) rfl (fH hD (by omega)) hD.quiet rfl rfl rfl rfl (by decide) (by decide)
 rw [FK.xZ] at this
 exact this
theorem AL (hD : FK.Dk N σ) (hN : N ≤ 1000000000) : Does Tryz.prog Good 24 [aO h, eg].toArray (bC h f e j d p FK.o4 FK.J0 σ) fun v m => v = .tuple #[gc 1 0 2 2, .bool true, .int .i64 0] ∧ m = bC h f e j d p FK.o5 FK.J0 (cH σ FK.J0 2 0) := by
 have := fw (h := h) (f := f) (e := e) (j := j) (d := d) (p := p) (J := FK.J0) (id := 1) (k := 0) (q := []) (R := (FK.p9 1 ⟨2, 1, 0⟩ ⟨1, 0, 0⟩ 0)) (s := ⟨2, 1, 0⟩) (nd := ⟨2, 9, 0, 3, 9, 0, []⟩) FK.o4_ok (by decide) rfl (fH hD (by omega)) hD.quiet rfl rfl rfl rfl (by decide) (by decide)
 rw [FK.xW] at this
 exact this
theorem AK (hD : FK.Dk N σ) (hN : N ≤ 1000000000) : Does Tryz.prog Good 24 [aO h, eg].toArray (bC h f e j d p FK.o6 FK.J0 σ) fun v m => v = .tuple #[gc 1 1 1 3, .bool true, .int .i64 0] ∧ m = bC h f e j d p FK.o7 FK.J0 (cH σ FK.J0 2 0) := by
 have := fw (h := h) (f := f) (e := e) (j := j) (d := d) (p := p) (J := FK.J0) (id := 1) (k := 1) (q := []) (R := (FK.p9 1 ⟨5, 2, 0⟩ ⟨2, 0, 0⟩ 0)) (s := ⟨2, 0, 0⟩) (nd := ⟨1, 9, 0, 1, 1, 0, [0]⟩) FK.o6_ok (by decide) rfl (fH hD (by omega)) hD.quiet rfl rfl rfl rfl (by decide) (by decide)
 rw [FK.xU] at this
 exact this
theorem o2_do (hD : FK.Dk N σ) (hN : N ≤ 1000000000) : Does Tryz.prog Good 25 [aO h, .int .i64 5, .int .u64 1, eg].toArray (bC h f e j d p FK.o2 FK.J0 σ) fun v m => v = .int .i64 0 ∧ m = bC h f e j d p FK.o3 FK.J0 (cH σ FK.J0 5 1) := by
 have := oB (h := h) (f := f) (e := e) (j := j) (d := d) (p := p) (J := FK.J0) (t := 1) (P := ⟨1, 0, 0⟩) FK.o2_ok (by decide) (by decide) rfl (fH hD (by omega)) hD.quiet rfl (by decide) (by decide)
 rw [FK.xY] at this
 exact this
theorem o5_do (hD : FK.Dk N σ) (hN : N ≤ 1000000000) : Does Tryz.prog Good 25 [aO h, .int .i64 4, .int .u64 2, eg].toArray (bC h f e j d p FK.o5 FK.J0 σ) fun v m => v = .int .i64 0 ∧ m = bC h f e j d p FK.o6 FK.J0 (cH σ FK.J0 4 2) := by
 have := io (h := h) (f := f) (e := e) (j := j) (d := d) (p := p) (J := FK.J0) (t := 2) (P := ⟨1, 0, 0⟩) FK.o5_ok (by decide) (by decide) rfl (fH hD (by omega)) hD.quiet rfl (by decide)
 rw [FK.xV] at this
 exact this
theorem o7_do (hD : FK.Dk N σ) (hN : N ≤ 1000000000) : Does Tryz.prog Good 25 [aO h, .int .i64 4, .int .u64 3, eg].toArray (bC h f e j d p FK.o7 FK.J0 σ) fun v m => v = .int .i64 0 ∧ m = bC h f e j d p FK.o8 FK.J0 (cH σ FK.J0 4 3) := by
 have := io (h := h) (f := f) (e := e) (j := j) (d := d) (p := p) (J := FK.J0) (t := 3) (P := ⟨1, 1, 0⟩) FK.o7_ok (by decide) (by decide) rfl (fH hD (by omega)) hD.quiet rfl (by decide)
 rw [FK.xT] at this
 exact this
theorem AM (hD : FK.Dk N σ) (hN : N ≤ 1000000000) : Does Tryz.prog Good 25 [aO h, .int .i64 7, .int .u64 3, eg].toArray (bC h f e j d p FK.o3 FK.J0 σ) fun v m => v = .int .i64 0 ∧ m = bC h f e j d p FK.o4 FK.J0 (cH σ FK.J0 7 3) := by
 refine (oA (h := h) (f := f) (e := e) (j := j) (d := d) (p := p) (J := FK.J0) (n := 3) FK.xX (by decide) (by decide) Z (fH hD (by omega)) hD.quiet (by decide) (by decide)).mono ?_
 rintro v m ⟨rfl, U, hU, rfl⟩
 rw [FK.o4_eq hU]
 exact ⟨_, ⟨rfl, rfl⟩, Ent.refl _⟩
end
def m6 : FK.Dsk := cH (cH (cH (cH (cH (cH (cH (FK.e0.logs FK.J0.n (dr (FK.frame (1 :: FK.bN FK.flow2)))) FK.J0 2 0) FK.J0 5 1) FK.J0 7 3) FK.J0 2 0) FK.J0 4 2) FK.J0 2 0) FK.J0 4 3
set_option maxRecDepth 20000 in
set_option maxHeartbeats 4000000 in
theorem qR : Does Tryz.prog Good 17 [].toArray [] fun v m => ∃ h f e j d p, v = aO h ∧ m = bC h f e j d p FK.o8 FK.J0 m6 := by
 refine Does.body Tryz.func17 Z Z fun E fr hE => ?_
 refine aL (At.seq (At.region (L.as Z Z (L.nil (At.then (At.seq (At.region ?_)))))))
 refine L.op Z (ah Z Z Z hE qU (Ent.refl _) ?_)
 rintro v m ⟨h, d, rfl, rfl⟩
 refine aJ (L.as Z Z (L.nil (At.then (At.seq (At.region ?_)))))
 refine L.op Z (ah Z Z Z hE cV (Ent.refl _) ?_)
 rintro v m ⟨rfl, rfl⟩
 refine aL (L.op Z (aN (z := .agg #[.int .i64 0, .int .i64 0, .int .i64 0, .int .i64 0]) Z Z fun b2 => ?_))
 refine L.op Z (aK Z (m := 4) (vs := bw (-1) (-1) 0 0) Z Z Z Z (by simp [Value.oneCell']) (by show 0 + 4 ≤ 4; omega) ?_)
 refine aD b2 (bw (-1) (-1) 0 0).toArray Z (L.nil (At.then (At.seq (At.region (L.mv Z Z (L.val Z (ao (vs := bw (-1) (-1) 0 0) Z Z Z Z) (aw Z) ?_))))))
 refine L.op Z (ah Z Z Z hE (sS (h := h) (d := d)) (aP (.tail .head) (.tail .head)) ?_)
 rintro v m ⟨rfl, f, e, j, p, rfl⟩
 refine bF (L.as Z Z (L.nil (At.then (At.seq (At.region (L.pure Z (bn (ps := [(0, .const (.int .i64 2)), (1, .const (.int .i64 9)), (3, .const (.int .i64 3)), (4, .const (.int .i64 9))]) (vs := [.int .i64 2, .int .i64 9, .int .i64 3, .int .i64 9]) (cs := (av ⟨2, 9, 0, 3, 9, 0, []⟩ (.slice none 0 0)).toArray) Z Z Z Z Z) (L.op Z (da Z Z Z Z Z Z fun b35 => (L.pure Z (bn (ps := [(0, .const (.int .i64 1)), (1, .const (.int .i64 9)), (3, .const (.int .i64 1)), (4, .const (.int .i64 1)), (6, .tmp 35)]) (vs := [.int .i64 1, .int .i64 9, .int .i64 1, .int .i64 1, .slice (some ⟨b35, 0, none⟩) 1 1]) (cs := (av ⟨1, 9, 0, 1, 1, 0, [0]⟩ (.slice (some ⟨b35, 0, none⟩) 1 1)).toArray) Z Z Z Z Z) ?_)))))))))
 refine L.op Z (dF (m := 2) (z := .agg #[.int .i64 0, .int .i64 0, .int .i64 0, .int .i64 0, .int .i64 0, .int .i64 0, .slice none 0 0]) (size := 7) (ps := [(0, .tmp 34), (1, .tmp 36)]) (vs := [.agg (av ⟨2, 9, 0, 3, 9, 0, []⟩ (.slice none 0 0)).toArray, .agg (av ⟨1, 9, 0, 1, 1, 0, [0]⟩ (.slice (some ⟨b35, 0, none⟩) 1 1)).toArray]) (cs := (aZ FK.flow2.CG [.slice none 0 0, .slice (some ⟨b35, 0, none⟩) 1 1]).toArray) Z Z Z Z (by omega) (by omega) Z (uP _ _ _ _ Z Z) fun b37 => ?_)
 refine At.ent (uU (b37 := b37) (b35 := b35)) (L.pure Z (bn (ps := [(0, .const (.int .i64 100)), (1, .tmp 37)]) (vs := [.int .i64 100, .slice (some ⟨b37, 0, none⟩) 2 2]) (cs := #[.int .i64 100, .slice (some ⟨b37, 0, none⟩) 2 2]) Z Z Z Z Z) (L.op Z (fE Z Z Z hE (lE 100 FK.flow2.CG (some ⟨b37, 0, none⟩) 2 (zF FK.flow2_fit)) (nodesOwn.at (c := 2) (ns := FK.flow2.CG) .head (l7 FK.flow2_fit)) ?_)))
 rintro v m hv
 obtain ⟨bv, rfl, rfl⟩ : ∃ bv, v = .tuple #[bv, .int .i64 0, .int .i64 (-1)] ∧ m = [bO bv (FK.bN FK.flow2)] := by
  rcases hv with ⟨_, h⟩ | ⟨h, _⟩
  · exact h
  · exact absurd (by rw [show (⟨100, FK.flow2.CG⟩ : FK.Flow) = FK.flow2 from Z, FK.flow2_fit.chk]) h
 refine ai (aC .head ?_)
 rintro A4 c4 rfl f1 f2 - - -
 obtain ⟨hreads, hnil⟩ := il f1 f2
 refine At.ent (l' := aW h d f :: cD f e j :: ap e p FK.En.fresh :: au j d FK.J0 :: ak d FK.e0 :: bO (.slice A4 (FK.bN FK.flow2).length c4) (FK.bN FK.flow2) :: blk b2 41 (bw (-1) (-1) 0 0).toArray :: fr) al ?_
 refine L.mv Z Z (L.ex Z Z Z (L.ex Z Z Z (L.ex Z Z Z (L.as Z Z (L.as Z Z (L.as Z Z (L.nil (At.then (At.seq (At.region (L.mv Z Z (L.mv Z Z (L.val Z (ao (vs := bw (-1) (-1) 0 0) Z Z Z Z) (aw Z) ?_)))))))))))))
 refine L.op Z (ah Z Z Z hE (lG (h := h) (f := f) (e := e) (j := j) (d := d) (p := p) (J := FK.J0) (σ := FK.e0) (bs := FK.bN FK.flow2) (fl := FK.flow2) FK.Ok.fresh (by decide) Z (fH FK.Dk.e0 (by omega)) FK.nX hreads hnil (by have := FK.flow2_fit.encLen; omega) (FK.nh FK.flow2_fit) FK.flow2_fit Z (by decide) (by decide)) (Ent.refl _) ?_)
 rintro v m ⟨rfl, S0, p', hcut, rfl⟩
 refine nn ?_
 obtain rfl := FK.cut0 hcut
 rw [FK.BC]
 clear hcut
 obtain ⟨σ1, hσ1⟩ : ∃ σ, σ = FK.e0.logs FK.J0.n (dr (FK.frame (1 :: FK.bN FK.flow2))) := ⟨_, rfl⟩
 rw [← hσ1]
 have hDσ1 : FK.Dk 100000 σ1 := hσ1 ▸ xF FK.Dk.e0 0 FK.flow2_fit
 refine At.ent (l' := aW h d f :: cD f e j :: ap e p' FK.o1 :: au j d FK.J0 :: ak d σ1 :: blk b2 41 (bw (-1) (-1) 0 0).toArray :: fr) al ?_
 refine L.mv Z Z (L.ex Z Z Z (L.ex Z Z Z (L.ex Z Z Z (L.as Z Z (L.as Z Z (L.as Z Z (L.nil (At.then (At.seq (At.region (L.mv Z Z (L.val Z (ao (vs := bw (-1) (-1) 0 0) Z Z Z Z) (aw Z) ?_))))))))))))
 refine L.op Z (ah Z Z Z hE (AN hDσ1 (by omega)) (Ent.refl _) ?_)
 rintro v m ⟨rfl, rfl⟩
 refine bF ?_
 obtain ⟨σ2, hnσ2⟩ : ∃ σ, σ = cH σ1 FK.J0 2 0 := ⟨_, rfl⟩
 rw [← hnσ2]
 have hDσ2 : FK.Dk 200000 σ2 := hnσ2 ▸ ie hDσ1 FK.J0 2 (by decide)
 refine L.mv Z Z (L.ex Z Z Z (L.ex Z Z Z (L.ex Z Z Z (L.op Z (aN (z := .agg #[.int .u64 0, .int .i64 0, .int .i64 0, .int .u64 0]) Z Z fun b10 => ?_)))))
 refine L.op Z (aK Z (m := 4) (vs := bh 1 0 1 1) Z Z Z Z (by simp [Value.oneCell']) (by show 0 + 4 ≤ 4; omega) ?_)
 refine aD b10 (bh 1 0 1 1).toArray Z ?_
 refine At.ent (l' := aW h d f :: cD f e j :: ap e p' FK.o2 :: au j d FK.J0 :: ak d σ2 :: blk b10 55 (bh 1 0 1 1).toArray :: blk b2 41 (bw (-1) (-1) 0 0).toArray :: fr) al ?_
 refine L.as Z Z (L.as Z Z (L.nil (At.then (At.seq (At.region (L.mv Z Z (L.val Z (ao (vs := bw (-1) (-1) 0 0) Z Z Z Z) (aw Z) ?_)))))))
 refine L.op Z (ah Z Z Z hE (ix hDσ2.quiet Z) (Ent.refl _) ?_)
 rintro v m ⟨rfl, rfl⟩
 refine bF (L.mv Z Z (L.ex Z Z Z (L.ex Z Z Z (L.ex Z Z Z (L.op Z (aN (z := .agg #[.int .u64 0, .int .i64 0, .int .i64 0, .int .u64 0]) Z Z fun b13 => ?_))))))
 refine L.op Z (aK Z (m := 4) (vs := bh 0 0 0 0) Z Z Z Z (by simp [Value.oneCell']) (by show 0 + 4 ≤ 4; omega) ?_)
 refine aD b13 (bh 0 0 0 0).toArray Z ?_
 refine At.ent (l' := aW h d f :: cD f e j :: ap e p' FK.o2 :: au j d FK.J0 :: ak d σ2 :: blk b10 55 (bh 1 0 1 1).toArray :: blk b2 41 (bw (-1) (-1) 0 0).toArray :: fr) al ?_
 refine L.as Z Z (L.as Z Z (L.nil (At.then (At.seq (At.region (L.mv Z Z (aI 3 Z Z Z (bd Z Z Z Z (L.val Z (ao (vs := bw (-1) (-1) 0 0) Z Z Z Z) (aw Z) ?_)))))))))
 refine L.op Z (ah Z Z Z hE (o2_do hDσ2 (by omega)) (Ent.refl _) ?_)
 rintro v m ⟨rfl, rfl⟩
 refine bF ?_
 obtain ⟨σ3, hnσ3⟩ : ∃ σ, σ = cH σ2 FK.J0 5 1 := ⟨_, rfl⟩
 rw [← hnσ3]
 have hDσ3 : FK.Dk 300000 σ3 := hnσ3 ▸ ie hDσ2 FK.J0 5 (by decide)
 refine L.as Z Z (L.nil (At.then (At.seq (At.region (L.mv Z Z (L.val Z (ao (vs := bw (-1) (-1) 0 0) Z Z Z Z) (aw Z) ?_))))))
 refine L.op Z (ah Z Z Z hE (AM hDσ3 (by omega)) (Ent.refl _) ?_)
 rintro v m ⟨rfl, rfl⟩
 refine bF ?_
 obtain ⟨σ4, hnσ4⟩ : ∃ σ, σ = cH σ3 FK.J0 7 3 := ⟨_, rfl⟩
 rw [← hnσ4]
 have hDσ4 : FK.Dk 400000 σ4 := hnσ4 ▸ ie hDσ3 FK.J0 7 (by decide)
 refine L.as Z Z (L.nil (At.then (At.seq (At.region (L.mv Z Z (L.val Z (ao (vs := bw (-1) (-1) 0 0) Z Z Z Z) (aw Z) ?_))))))
 refine L.op Z (ah Z Z Z hE (AL hDσ4 (by omega)) (Ent.refl _) ?_)
 rintro v m ⟨rfl, rfl⟩
 refine bF ?_
 obtain ⟨σ5, hnσ5⟩ : ∃ σ, σ = cH σ4 FK.J0 2 0 := ⟨_, rfl⟩
 rw [← hnσ5]
 have hDσ5 : FK.Dk 500000 σ5 := hnσ5 ▸ ie hDσ4 FK.J0 2 (by decide)
 refine L.mv Z Z (L.ex Z Z Z (L.ex Z Z Z (L.ex Z Z Z (L.op Z (aN (z := .agg #[.int .u64 0, .int .i64 0, .int .i64 0, .int .u64 0]) Z Z fun b18 => ?_)))))
 refine L.op Z (aK Z (m := 4) (vs := bh 1 0 2 2) Z Z Z Z (by simp [Value.oneCell']) (by show 0 + 4 ≤ 4; omega) ?_)
 refine aD b18 (bh 1 0 2 2).toArray Z ?_
 refine At.ent (l' := aW h d f :: cD f e j :: ap e p' FK.o5 :: au j d FK.J0 :: ak d σ5 :: blk b18 55 (bh 1 0 2 2).toArray :: blk b10 55 (bh 1 0 1 1).toArray :: blk b2 41 (bw (-1) (-1) 0 0).toArray :: fr) al ?_
 refine L.as Z Z (L.as Z Z (L.nil (At.then (At.seq (At.region (L.mv Z Z (aI 3 Z Z Z (bd Z Z Z Z (L.val Z (ao (vs := bw (-1) (-1) 0 0) Z Z Z Z) (aw Z) ?_)))))))))
 refine L.op Z (ah Z Z Z hE (o5_do hDσ5 (by omega)) (Ent.refl _) ?_)
 rintro v m ⟨rfl, rfl⟩
 refine bF ?_
 obtain ⟨σ6, hnσ6⟩ : ∃ σ, σ = cH σ5 FK.J0 4 2 := ⟨_, rfl⟩
 rw [← hnσ6]
 have hDσ6 : FK.Dk 600000 σ6 := hnσ6 ▸ ie hDσ5 FK.J0 4 (by decide)
 refine L.as Z Z (L.nil (At.then (At.seq (At.region (L.mv Z Z (L.val Z (ao (vs := bw (-1) (-1) 0 0) Z Z Z Z) (aw Z) ?_))))))
 refine L.op Z (ah Z Z Z hE (AK hDσ6 (by omega)) (Ent.refl _) ?_)
 rintro v m ⟨rfl, rfl⟩
 refine bF ?_
 obtain ⟨σ7, hnσ7⟩ : ∃ σ, σ = cH σ6 FK.J0 2 0 := ⟨_, rfl⟩
 rw [← hnσ7]
 have hDσ7 : FK.Dk 700000 σ7 := hnσ7 ▸ ie hDσ6 FK.J0 2 (by decide)
 refine L.mv Z Z (L.ex Z Z Z (L.ex Z Z Z (L.ex Z Z Z (L.op Z (aN (z := .agg #[.int .u64 0, .int .i64 0, .int .i64 0, .int .u64 0]) Z Z fun b22 => ?_)))))
 refine L.op Z (aK Z (m := 4) (vs := bh 1 1 1 3) Z Z Z Z (by simp [Value.oneCell']) (by show 0 + 4 ≤ 4; omega) ?_)
 refine aD b22 (bh 1 1 1 3).toArray Z ?_
 refine At.ent (l' := aW h d f :: cD f e j :: ap e p' FK.o7 :: au j d FK.J0 :: ak d σ7 :: blk b22 55 (bh 1 1 1 3).toArray :: blk b18 55 (bh 1 0 2 2).toArray :: blk b10 55 (bh 1 0 1 1).toArray :: blk b2 41 (bw (-1) (-1) 0 0).toArray :: fr) al ?_
 refine L.as Z Z (L.as Z Z (L.nil (At.then (At.seq (At.region (L.mv Z Z (aI 3 Z Z Z (bd Z Z Z Z (L.val Z (ao (vs := bw (-1) (-1) 0 0) Z Z Z Z) (aw Z) ?_)))))))))
 refine L.op Z (ah Z Z Z hE (o7_do hDσ7 (by omega)) (Ent.refl _) ?_)
 rintro v m ⟨rfl, rfl⟩
 refine bF ?_
 obtain ⟨σ8, hnσ8⟩ : ∃ σ, σ = cH σ7 FK.J0 4 3 := ⟨_, rfl⟩
 rw [← hnσ8]
 have hDσ8 : FK.Dk 800000 σ8 := hnσ8 ▸ ie hDσ7 FK.J0 4 (by decide)
 refine L.as Z Z (L.nil (At.then (At.seq (At.region (L.mv Z Z (L.mv Z Z ?_))))))
 refine L.op Z (ah Z Z Z hE (jy (id := 1) (R := FK.p9 2 ⟨5, 2, 0⟩ ⟨5, 1, 0⟩ 1) FK.pf Z) (Ent.refl _) ?_)
 rintro v m ⟨A2, c2, A3, c3, rfl, rfl⟩
 refine qL (L.mv Z Z (L.ex Z Z Z (L.ex Z Z Z (L.op Z (aN (z := .agg #[.int .u64 0, .int .i64 0, .slice none 0 0, .slice none 0 0]) Z Z fun b26 => ?_)))))
 refine L.op Z (aK Z (m := 4) (vs := bG 1 2 (.slice A2 2 c2) (.slice A3 2 c3)) Z Z Z Z (by simp [Value.oneCell']) (by show 0 + 4 ≤ 4; omega) ?_)
 refine aD b26 (bG 1 2 (.slice A2 2 c2) (.slice A3 2 c3)).toArray Z (L.as Z Z (L.nil (At.then (At.seq (At.seq (At.region (L.mv Z Z (L.pure Z (bX Z Z Z) (L.mv Z Z (lT Z Z Z (ae Z) (lT Z Z Z (bX Z Z Z) (L.pure Z (aq Z Z Z) (L.mv Z Z (lT Z Z Z (ae Z) (lT Z Z Z (bX Z Z Z) (L.pure Z (aq Z Z Z) (L.mv Z Z (lT Z Z Z (ae Z) (lT Z Z Z (bX Z Z Z) ?_)))))))))))))))))))
 refine L.pure Z (aq Z Z Z) (L.mv Z Z (lT Z Z Z (ae Z) (lT Z Z Z (bX Z Z Z) (L.pure Z (aq Z Z Z) (L.mv Z Z (lT Z Z Z (ae Z) (lT Z Z Z (bX Z Z Z) (L.pure Z (aq Z Z Z) (L.mv Z Z (lT Z Z Z (ae Z) (lT Z Z Z (bX Z Z Z) (L.pure Z (aq Z Z Z) (L.mv Z Z (lT Z Z Z (ae Z) (lT Z Z Z (bX Z Z Z) (L.pure Z (aq Z Z Z) (L.mv Z Z (lT Z Z Z (ae Z) (lT Z Z Z (bX Z Z Z) ?_)))))))))))))))))))
 refine L.pure Z (aq Z Z Z) (L.nil (At.then (aj Z (At.skip (At.then (At.seq (At.seq (At.region (L.mv Z Z (L.pure Z (bX Z Z Z) (L.mv Z Z (lT Z Z Z (ae Z) (lT Z Z Z (cg Z Z) (L.pure Z (aq Z Z Z) (L.mv Z Z (lT Z Z Z (ae Z) (L.pure Z (aq Z Z Z) (L.mv Z Z (lT Z Z Z (ae Z) ?_)))))))))))))))))))
 refine lT Z Z Z (cg Z Z) (L.pure Z (aq Z Z Z) (L.mv Z Z (lT Z Z Z (ae Z) (lT Z Z Z (cg Z Z) (L.pure Z (aq Z Z Z) (L.mv Z Z (lT Z Z Z (ab (off := 1) Z Z) (lA Z Z Z (aa Z Z) (ag Z) (lT Z Z Z (bX Z Z Z) (L.pure Z (aq Z Z Z) (L.mv Z Z (lT Z Z Z (ab (off := 2) Z Z) (lA Z Z Z (aa Z Z) (ag Z) (lT Z Z Z (bX Z Z Z) (L.pure Z (aq Z Z Z) (L.mv Z Z (lT Z Z Z (ab (off := 1) Z Z) (lA Z Z Z (aa Z Z) (ag Z) (lT Z Z Z (bX Z Z Z) ?_)))))))))))))))))))
 refine L.pure Z (aq Z Z Z) (L.mv Z Z (lT Z Z Z (ab (off := 2) Z Z) (lA Z Z Z (aa Z Z) (ag Z) (lT Z Z Z (bX Z Z Z) (L.pure Z (aq Z Z Z) (L.mv Z Z (lT Z Z Z (ab (off := 3) Z Z) (lA Z Z Z (aa Z Z) (ag Z) (lT Z Z Z (ab (off := 3) Z Z) (lA Z Z Z (aa Z Z) (ag Z) (lT Z Z Z (aH Z Z Z) (L.pure Z (aq Z Z Z) (L.mv Z Z (lT Z Z Z (ab (off := 1) Z Z) (lA Z Z Z (aa Z Z) (ag Z) (lT Z Z Z (bX Z Z Z) (L.pure Z (aq Z Z Z) (L.mv Z Z (lT Z Z Z (ab (off := 1) Z Z) ?_)))))))))))))))))))
 refine lA Z Z Z (aa Z Z) (ag Z) (lT Z Z Z (bX Z Z Z) (L.pure Z (aq Z Z Z) (L.nil (At.then (aj Z (At.skip (At.then (At.seq (At.region (L.mv Z Z (L.as Z Z (L.nil (At.then (At.ret ?_))))))))))))))
 have hE8 : σ8 = m6 := by rw [hnσ8, hnσ7, hnσ6, hnσ5, hnσ4, hnσ3, hnσ2, hσ1]; rfl
 refine aA (bC h f e j d p' FK.o8 FK.J0 σ8) Z Z ⟨h, f, e, j, d, p', rfl, by rw [hE8]⟩ ?_
 show Ent _ (aW h d f :: cD f e j :: ap e p' FK.o8 :: au j d FK.J0 :: ak d σ8 :: fr)
 exact al
end Go.Proofs.YtmeegfamopaljaaGreatDoor

set_option maxRecDepth 10000
namespace FK
structure Lg (N : Nat) (l : List (List UInt8)) (S : En) : Prop where
 reds : Reds En.fresh l S
 len : (bI l).length ≤ N
theorem Lg.mono {N M : Nat} {l : List (List UInt8)} {S : En} (h : Lg N l S) (hN : N ≤ M) : Lg M l S := ⟨h.reds, Nat.le_trans h.len hN⟩
theorem Lg.snoc {N : Nat} {l : List (List UInt8)} {S U : En} (h : Lg N l S) (hF : Fine S) {b : List UInt8} (hb : b.length ≤ 1000000) (hr : Redo S b U) : Lg (N + b.length + 20) (l ++ [b]) U := by
 refine ⟨h.reds.snoc hF (by omega) hr, ?_⟩
 have h1 := h.len
 have h2 := Go.Proofs.YtmeegfamopaljaaGreatDoor.kl b (by omega)
 rw [mJ, List.length_append]
 omega
theorem xy {op n : Nat} (hn : n < 18446744073709551616) : (aV op n).length ≤ 11 := by
 have := Go.Proofs.YtmeegfamopaljaaGreatDoor.eH hn
 unfold aV
 simp only [List.length_cons]
 omega
theorem Lg.note {N : Nat} {l : List (List UInt8)} {S U : En} (h : Lg N l S) (hF : Fine S) {op n : Nat} (hn : n < 18446744073709551616) (hr : Redo S (aV op n) U) : Lg (N + 31) (l ++ [aV op n]) U := by
 have h1 := xy (op := op) hn
 exact (h.snoc hF (by omega) hr).mono (by omega)
end FK
namespace Go.Proofs.YtmeegfamopaljaaGreatDoor
open Go Go.RowKit Go.SL
theorem cW (l : List (List UInt8)) (k : Int) (op n : Nat) : cH (FK.cw l k) FK.J0 op n = FK.cw (l ++ [FK.aV op n]) k := FK.rK l _ k
theorem pH {N : Nat} {l : List (List UInt8)} {S : FK.En} (h : FK.Lg N l S) (hN : N ≤ 1000000000) : Roomy (FK.cw l 1) := by
 have h1 := h.len
 obtain ⟨h2, h3⟩ := FK.qA l 1
 exact fH (N := N) ⟨FK.kc l, by omega, by omega⟩ (by omega)
theorem sG : ∃ l, m6 = FK.cw l 1 ∧ FK.Lg 1000 l FK.o8 := by
 have fine : ∀ S : FK.En, FK.Ok S → S.sets ≤ 10 → S.ends ≤ 10 → S.CC ≤ 10 → S.CD ≤ 10 → FK.Fine S := fun S h a b c d => ⟨h, by omega, by omega, by omega, by omega⟩
 have h0 : FK.Lg 0 [] FK.En.fresh := ⟨.nil, Nat.le_refl _⟩
 have henc := FK.flow2_fit.encLen
 have h1 : FK.Redo FK.En.fresh (1 :: FK.bN FK.flow2) FK.o1 := FK.Redo.submit (S0 := FK.En.fresh) (FK.nh FK.flow2_fit) FK.flow2_fit (by omega) (show FK.rh FK.En.fresh FK.En.fresh from rfl) (fun S1 h => FK.cut0 h)
 have hb : (1 :: FK.bN FK.flow2).length ≤ 400 := by decide +kernel
 have g1 := h0.snoc (fine _ FK.Ok.fresh (by decide) (by decide) (by decide) (by decide)) (by omega) h1
 have r2 : FK.Redo FK.o1 (FK.aV 2 0) FK.o2 := FK.xZ ▸ FK.Redo.poll rfl rfl rfl rfl
 have g2 := g1.note (fine _ FK.o1_ok (by decide) (by decide) (by decide) (by decide)) (n := 0) (by decide) r2
 have r3 : FK.Redo FK.o2 (FK.aV 5 1) FK.o3 := FK.xY ▸ FK.Redo.fail (P := ⟨1, 0, 0⟩) (by decide) rfl
 have g3 := g2.note (fine _ FK.o2_ok (by decide) (by decide) (by decide) (by decide)) (n := 1) (by decide) r3
 have r4 : FK.Redo FK.o3 (FK.aV 7 3) FK.o4 := FK.Redo.tick (by decide) (show FK.Ticks (FK.o3.later 3) FK.o3 FK.o4 from FK.o4_ticks)
 have g4 := g3.note (fine _ FK.xX (by decide) (by decide) (by decide) (by decide)) (n := 3) (by decide) r4
 have r5 : FK.Redo FK.o4 (FK.aV 2 0) FK.o5 := FK.xW ▸ FK.Redo.poll rfl rfl rfl rfl
 have g5 := g4.note (fine _ FK.o4_ok (by decide) (by decide) (by decide) (by decide)) (n := 0) (by decide) r5
 have r6 : FK.Redo FK.o5 (FK.aV 4 2) FK.o6 := FK.xV ▸ FK.Redo.complete (P := ⟨1, 0, 0⟩) (by decide) rfl
 have g6 := g5.note (fine _ FK.o5_ok (by decide) (by decide) (by decide) (by decide)) (n := 2) (by decide) r6
 have r7 : FK.Redo FK.o6 (FK.aV 2 0) FK.o7 := FK.xU ▸ FK.Redo.poll rfl rfl rfl rfl
 have g7 := g6.note (fine _ FK.o6_ok (by decide) (by decide) (by decide) (by decide)) (n := 0) (by decide) r7
 have r8 : FK.Redo FK.o7 (FK.aV 4 3) FK.o8 := FK.xT ▸ FK.Redo.complete (P := ⟨1, 1, 0⟩) (by decide) rfl
 have g8 := g7.note (fine _ FK.o7_ok (by decide) (by decide) (by decide) (by decide)) (n := 3) (by decide) r8
 refine ⟨_, ?_, g8.mono (by omega)⟩
 unfold m6
 rw [show FK.J0.n = 0 from rfl, FK.Bm, cW, cW, cW, cW, cW, cW, cW]
 rfl
abbrev fO (h f e j d : Nat) (p : EA) (S : FK.En) (l : List (List UInt8)) : List HP := bC h f e j d p S FK.J0 (FK.cw l 1)
section
variable {S : FK.En} {σ : FK.Dsk} {J : FK.Jn} {d e f h j t : Nat} {nd : FK.Node} {R : FK.Rn}
theorem td {p : EA} (ht : S.CI.any (·.1 == t) = false) : Does Tryz.prog Good 55 [aO f, aY t].toArray (cd f e j d p S J σ) fun v m => v = ef 7 ∧ m = cd f e j d p S J σ := by
 refine Does.body Tryz.func55 Z Z fun E fr hE => ?_
 refine cB (At.seq (At.region (L.as Z Z (L.nil (At.then (At.seq (At.region (L.mv Z Z (L.mv Z Z ?_)))))))))
 refine L.op Z (ah Z Z Z hE (kO (op := 3) ht) (Ent.refl _) ?_)
 rintro v m ⟨rfl, rfl⟩
 exact cB (L.as Z Z (L.nil (At.then (At.ret (aA (cd f e j d p S J σ) Z Z ⟨rfl, rfl⟩ (Ent.refl _))))))
theorem tc {p : EA} {id k : Nat} {wh : Int} (h : FK.Ok S) (hn : t < 18446744073709551616) (hJ : J.n < 1000000) (hr : Roomy σ) (ht : (S.CI.find? (·.1 == t)).map (·.2) = some ⟨id, (k : Int), wh⟩) (hR : S.getR id = some R) (cN : R.fl.CG[k]? = some nd) (hsets : S.sets < 9223372036854775807) : Does Tryz.prog Good 55 [aO f, aY t].toArray (cd f e j d p S J σ) (CallPost f e j d p S J σ 3 t fun U => U = S.life ⟨id, (k : Int), wh⟩ nd) := by
 refine Does.body Tryz.func55 Z Z fun E fr hE => ?_
 refine cB (At.seq (At.region (L.as Z Z (L.nil (At.then (At.seq (At.region (L.mv Z Z (L.mv Z Z ?_)))))))))
 refine L.op Z (ah Z Z Z hE (kN (op := 3) (Q := fun U => U = S.life ⟨id, (k : Int), wh⟩ nd) (n0 ht) (kv (op := 3) (by omega) hn hJ hr (rZ ((vX h ht hR cN hsets).mono fun v m hv => ⟨m, ⟨hv.1, _, rfl, hv.2⟩, Ent.refl _⟩)))) (Ent.refl _) ?_)
 rintro v m hv
 exact L.as Z Z (L.nil (At.then (At.ret (aA m Z Z hv (Ent.refl _)))))
set_option maxHeartbeats 1000000 in
theorem pM {n : Nat} {p : EA} {Q : Int → FK.En → FK.Jn → FK.Dsk → Prop} (hQ : FK.Quiet σ)
 (hC : Does Tryz.prog Good 55 [aO f, aY n].toArray (cd f e j d p S J σ) fun v m => ∃ c U J' σ', v = ef c ∧ σ'.down = false ∧ Q c U J' σ' ∧ m = cd f e j d p U J' σ') : Does Tryz.prog Good 25 [aO h, .int .i64 3, aY n, eg].toArray (bC h f e j d p S J σ) fun v m => ∃ c U J' σ', v = .int .i64 c ∧ Q c U J' σ' ∧ m = bC h f e j d p U J' σ'.rested := by
 refine Does.body Tryz.func25 Z Z fun E fr hE => ?_
 refine bF (At.seq (At.region (L.op Z (cb Z Z fun b7 => (L.as Z Z (L.nil (At.then (At.seq (At.seq (At.region (L.mv Z Z (aR Z Z (aI 1 Z Z Z (bd Z Z Z Z (L.pure Z (cX Z Z Z) (L.nil (At.then (aj Z (At.skip (At.then ?_))))))))))))))))))))
 refine At.seq (At.region (L.mv Z Z (L.val Z (ao (vs := bw (-1) (-1) 0 0) Z Z Z Z) (aw Z) ?_)))
 refine L.op Z (ah Z Z Z hE (df (-1) (-1) 0 0) (aP (.tail .head) (.tail (.tail (.tail (.tail .head))))) ?_)
 rintro v m ⟨rfl, rfl⟩
 refine aJ ?_
 rw [jb hQ]
 refine At.ent (l' := cD f e j :: ap e p S :: au j d J :: ak d σ :: aW h d f :: blk b7 41 (bw (-1) (-1) 0 0).toArray :: fr) (by show Ent (_ :: _ :: blk b7 41 (bw (-1) (-1) 0 0).toArray :: _) _; exact al) ?_
 refine L.nil (At.then (At.seq (At.region (L.as Z Z (L.nil (At.then (At.seq (At.seq (At.region (L.mv Z Z (L.nil (At.then (At.block (At.seq (At.region (L.pure Z (aH Z Z Z) (L.as Z Z (L.nil (At.then ?_)))))))))))))))))))
 refine aQ Z (At.region (L.mv Z Z (aR Z Z (aI 1 Z Z Z (bd Z Z Z Z (L.mv Z Z ?_))))))
 refine L.op Z (ah Z Z Z hE hC (Ent.refl _) ?_)
 rintro v m ⟨c, U, J', σ', rfl, hdn, hQ', rfl⟩
 refine cB (L.as Z Z (L.nil (an (At.then (At.seq ?_)))))
 refine At.ent (l' := aW h d f :: ak d σ' :: cD f e j :: ap e p U :: au j d J' :: blk b7 41 (bw (-1) (-1) 0 0).toArray :: fr) al ?_
 refine At.region (L.mv Z Z (L.val Z (ao (vs := bw (-1) (-1) 0 0) Z Z Z Z) (aw Z) ?_))
 refine L.op Z (ah Z Z Z hE (dA (-1) (-1) 0 0 hdn) (Ent.refl _) ?_)
 rintro v m ⟨rfl, rfl⟩
 refine aJ (L.nil (At.then (At.seq (At.region (L.mv Z Z ?_)))))
 refine L.op Z (ah Z Z Z hE (jq c) (Ent.refl _) ?_)
 rintro v m ⟨rfl, rfl⟩
 refine aL (L.as Z Z (L.nil (At.then (At.ret (aA (bC h f e j d p U J' σ'.rested) Z Z ⟨c, U, J', σ', rfl, hQ', rfl⟩ ?_)))))
 show Ent _ (aW h d f :: cD f e j :: ap e p U :: au j d J' :: ak d σ'.rested :: fr)
 exact al
theorem uJ {id k : Nat} {wh : Int} {p : EA} (hS : FK.Ok S) (hn : t < 18446744073709551616) (hJ : J.n < 1000000) (hb : J.broken = 0) (hr : Roomy σ) (hQ : FK.Quiet σ) (ht : (S.CI.find? (·.1 == t)).map (·.2) = some ⟨id, (k : Int), wh⟩) (hR : S.getR id = some R) (cN : R.fl.CG[k]? = some nd) (hsets : S.sets < 9223372036854775807) : Does Tryz.prog Good 25 [aO h, .int .i64 3, aY t, eg].toArray (bC h f e j d p S J σ) fun v m => v = .int .i64 0 ∧ m = bC h f e j d p (S.life ⟨id, (k : Int), wh⟩ nd) J (cH σ J 3 t) := by
 refine (pM (Q := fun c U J' σ' => c = 0 ∧ U = S.life ⟨id, (k : Int), wh⟩ nd ∧ J' = J ∧ σ'.rested = cH σ J 3 t) hQ ((tc hS hn hJ hr ht hR cN hsets).mono fun v m hv => ⟨m, hv.well hQ hb, Ent.refl _⟩)).mono ?_
 rintro v m ⟨c, U, J', σ', rfl, ⟨rfl, rfl, rfl, h4⟩, rfl⟩
 refine ⟨_, ⟨rfl, rfl⟩, ?_⟩
 rw [h4]
 exact Ent.refl _
theorem sV {p : EA} (hQ : FK.Quiet σ) (ht : S.CI.any (·.1 == t) = false) : Does Tryz.prog Good 25 [aO h, .int .i64 3, aY t, eg].toArray (bC h f e j d p S J σ) fun v m => v = .int .i64 7 ∧ m = bC h f e j d p S J σ := by
 refine (pM (Q := fun c U J' σ' => c = 7 ∧ U = S ∧ J' = J ∧ σ' = σ) hQ ((td ht).mono fun v m hv => ⟨m, ⟨7, S, J, σ, hv.1, hQ.down, ⟨rfl, rfl, rfl, rfl⟩, hv.2⟩, Ent.refl _⟩)).mono ?_
 rintro v m ⟨c, U, J', σ', rfl, ⟨rfl, rfl, rfl, rfl⟩, rfl⟩
 refine ⟨_, ⟨rfl, rfl⟩, ?_⟩
 rw [hQ.rested]
 exact Ent.refl _
theorem mX {p : EA} (hQ : FK.Quiet σ) (ht : S.CI.any (·.1 == t) = false) : Does Tryz.prog Good 25 [aO h, .int .i64 4, aY t, eg].toArray (bC h f e j d p S J σ) fun v m => v = .int .i64 7 ∧ m = bC h f e j d p S J σ := by
 refine (pL (Q := fun c U J' σ' => c = 7 ∧ U = S ∧ J' = J ∧ σ' = σ) hQ ((m0 ht).mono fun v m hv => ⟨m, ⟨7, S, J, σ, hv.1, hQ.down, ⟨rfl, rfl, rfl, rfl⟩, hv.2⟩, Ent.refl _⟩)).mono ?_
 rintro v m ⟨c, U, J', σ', rfl, ⟨rfl, rfl, rfl, rfl⟩, rfl⟩
 refine ⟨_, ⟨rfl, rfl⟩, ?_⟩
 rw [hQ.rested]
 exact Ent.refl _
theorem sT {p : EA} (hQ : FK.Quiet σ) (ht : S.CI.any (·.1 == t) = false) : Does Tryz.prog Good 25 [aO h, .int .i64 5, aY t, eg].toArray (bC h f e j d p S J σ) fun v m => v = .int .i64 7 ∧ m = bC h f e j d p S J σ := by
 refine (pK (Q := fun c U J' σ' => c = 7 ∧ U = S ∧ J' = J ∧ σ' = σ) hQ ((s8 ht).mono fun v m hv => ⟨m, ⟨7, S, J, σ, hv.1, hQ.down, ⟨rfl, rfl, rfl, rfl⟩, hv.2⟩, Ent.refl _⟩)).mono ?_
 rintro v m ⟨c, U, J', σ', rfl, ⟨rfl, rfl, rfl, rfl⟩, rfl⟩
 refine ⟨_, ⟨rfl, rfl⟩, ?_⟩
 rw [hQ.rested]
 exact Ent.refl _
theorem s9 {jv : Value} {p : EA} : Does Tryz.prog Good 87 [aO f].toArray [gx f e jv, ap e p S] fun v m => v = .tuple #[aY S.now, aY S.seed] ∧ m = [gx f e jv, ap e p S] := by
 refine Does.body Tryz.func87 Z Z fun E fr hE => ?_
 refine aJ (At.seq (At.region (L.as Z Z (L.as Z Z (L.nil (At.then (At.seq (At.region (L.mv Z Z (aR Z Z (aI 0 Z Z Z (bd Z Z Z Z ?_))))))))))))
 refine L.op Z (ah Z Z Z hE va (Ent.sel (.tail .head)) ?_)
 rintro v m ⟨rfl, rfl⟩
 exact ai (L.ex Z Z Z (L.ex Z Z Z (L.as Z Z (L.as Z Z (L.nil (At.then (At.ret (cU [gx f e jv, ap e p S] rfl Z Z ⟨rfl, rfl⟩ (Ent.sel (.tail .head))))))))))
theorem sU {p : EA} : Does Tryz.prog Good 43 [aO h].toArray (bC h f e j d p S J σ) fun v m => v = .tuple #[aY S.now, aY S.seed] ∧ m = bC h f e j d p S J σ := by
 refine Does.body Tryz.func43 Z Z fun E fr hE => ?_
 refine bF (At.seq (At.region (L.as Z Z (L.as Z Z (L.nil (At.then (At.seq (At.seq (At.region (L.mv Z Z (aR Z Z (aI 1 Z Z Z (bd Z Z Z Z (L.pure Z (cX Z Z Z) (L.nil (At.then (aj Z (At.skip (At.then ?_)))))))))))))))))))
 refine At.seq (At.region (L.mv Z Z (aR Z Z (aI 1 Z Z Z (bd Z Z Z Z ?_)))))
 refine L.op Z (ah Z Z Z hE s9 (aP (.tail .head) (.tail .head)) ?_)
 rintro v m ⟨rfl, rfl⟩
 refine aJ (L.ex Z Z Z (L.ex Z Z Z (L.as Z Z (L.as Z Z (L.nil (At.then (At.ret (cU (bC h f e j d p S J σ) Z Z Z ⟨rfl, rfl⟩ ?_))))))))
 show Ent _ (aW h d f :: cD f e j :: ap e p S :: au j d J :: ak d σ :: fr)
 exact al
end
open Go Go.RowKit
end Go.Proofs.YtmeegfamopaljaaGreatDoor

set_option maxRecDepth 10000
namespace Go.Proofs.YtmeegfamopaljaaGreatDoor
open Go Go.RowKit Go.SL
variable {G : Env → Prop}
theorem xq {dl : Int} {ns : List FK.Node} (h : FK.Fit ⟨dl, ns⟩) : lC ns := ⟨by have h12 : ns.length ≤ 12 := h.head.2.2; omega, fun nd cN => by
 obtain ⟨i, hi⟩ := List.getElem?_of_mem cN
 have h1 := FK.jr _ _ (h.CG i nd (FK.bU hi) hi).2
 have h2 : ns.length ≤ 12 := h.head.2.2
 simp only at h1
 omega⟩
theorem s5 (nd : FK.Node) (A : Option Addr) (n c : Nat) (k : Int) (seed : Nat) (h1 : 1 ≤ nd.base) (h2 : nd.base ≤ nd.cap) (h3 : nd.cap ≤ 1048576) (h4 : 0 ≤ nd.CK) (h5 : nd.CK ≤ 1048576) (hs : seed < 18446744073709551616) : Does Tryz.prog G 88 [.agg (av nd (.slice A n c)).toArray, .int .i64 k, .int .u64 seed].toArray [] fun v m => v = .int .i64 (FK.dk nd.base nd.cap nd.CK k seed) ∧ m = [] := by
 refine Does.body Tryz.func88 Z Z fun E fr hE => ?_
 refine aL (At.seq (At.region (L.op Z (cb Z Z fun b3 => (L.as Z Z (L.nil (At.then (At.seq (At.region (L.val Z (ao (vs := av nd (.slice A n c)) Z Z Z Z) (aw Z) (L.mv Z Z (L.mv Z Z ?_))))))))))))
 refine L.op Z (ah Z Z Z hE (pw nd A n c k seed h1 h2 h3 h4 h5 hs) (Ent.refl _) ?_)
 rintro v m ⟨rfl, rfl⟩
 exact aL (L.as Z Z (L.nil (At.then (At.ret (aA [] rfl Z ⟨rfl, rfl⟩ Ent.drop)))))
theorem sF (nd : FK.Node) (A : Option Addr) (n c : Nat) (k : Int) (seed : Nat) (h1 : 1 ≤ nd.base) (h2 : nd.base ≤ nd.cap) (h3 : nd.cap ≤ 1048576) (h4 : 0 ≤ nd.CK) (h5 : nd.CK ≤ 1048576) (hs : seed < 18446744073709551616) : Does Tryz.prog G 44 [.agg (av nd (.slice A n c)).toArray, .int .i64 k, .int .u64 seed].toArray [] fun v m => v = .int .i64 (FK.dk nd.base nd.cap nd.CK k seed) ∧ m = [] := by
 refine Does.body Tryz.func44 Z Z fun E fr hE => ?_
 refine aL (At.seq (At.region (L.op Z (cb Z Z fun b3 => (L.as Z Z (L.nil (At.then (At.seq (At.region (L.val Z (ao (vs := av nd (.slice A n c)) Z Z Z Z) (aw Z) (L.mv Z Z (L.mv Z Z ?_))))))))))))
 refine L.op Z (ah Z Z Z hE (s5 nd A n c k seed h1 h2 h3 h4 h5 hs) (Ent.refl _) ?_)
 rintro v m ⟨rfl, rfl⟩
 exact aL (L.as Z Z (L.nil (At.then (At.ret (aA [] rfl Z ⟨rfl, rfl⟩ Ent.drop)))))
end Go.Proofs.YtmeegfamopaljaaGreatDoor

namespace Go.SL
open Go Go.RowKit
section
variable {P : Program} {E : Env} {n : Nat} {D : List Deferred} {ts : List (Nat × Value)} {l : List HP} {ops : Array Oper} {Q : Exit → Act → World → Prop} {rest : List Oper} {i : Nat} {ty : TypeId} {pos : String} {af : Array Edge} {g : Option (Nat × Bool)}
end
end Go.SL

namespace FK
end FK
namespace Go.Proofs.YtmeegfamopaljaaGreatDoor
open Go Go.RowKit Go.SL
theorem uO (id : Nat) (j t : Int) (tok : Nat) (x : Nat) : Instr.fill (fun i => some (i * 4, 4)) (Array.map (fun x => (gc 0 0 0 0).cells[x % (gc 0 0 0 0).cells.size]!) (Array.range (1 * 4))) ((List.map (fun x => x.fst) [((0 : Nat), Operand.tmp x)]).zip [gc id j t tok]) = some (bh id j t tok).toArray := by
 have e1 : Array.range (1 * 4) = #[0, 1, 2, 3] := rfl
 rw [e1]
 simp [Instr.fill, Value.cells]
end Go.Proofs.YtmeegfamopaljaaGreatDoor

namespace FK
theorem rH : ∀ a A, o8.getR a = some A → A.state ≠ 1 := fun a A h => by
 unfold En.getR o8 at h
 rw [List.find?_cons] at h
 split at h
 · injection h with h
   subst h
   decide
 · cases h
theorem cut8 {S0 : En} (h : rh o8 S0) : S0 = o8 := h
structure Run2 (N : Nat) (F : Flow) (l : List (List UInt8)) (S : En) (R : Rn) : Prop where
 lone : Lone 2 F S R
 lg : Lg N l S
theorem Few.fine {n : Nat} {S : En} (h : Few n S) (hok : Ok S) (hn : n ≤ 10000000) : Fine S := ⟨hok, by have := h.sets; omega, by have := h.ends; omega, by have := h.tok; omega, by have := h.run; omega⟩
theorem Few.mono {n m : Nat} {S : En} (h : Few n S) (hm : n ≤ m) : Few m S := ⟨by have := h.sets; omega, by have := h.ends; omega, by have := h.tok; omega, by have := h.run; omega, by have := h.now; omega⟩
end FK
namespace Go.Proofs.YtmeegfamopaljaaGreatDoor
open Go Go.RowKit Go.SL
def tF (h : Nat) (dl : Int) (nv : Value) (run : Nat) (tv rv yv : Value) (irun : Nat) (ist : Int) (iv jv : Value) : List Value := [aO h, .int .i64 dl, nv, aY run, tv, rv, yv, aY irun, .int .i64 ist, iv, jv]
abbrev dj (w h : Nat) (dl : Int) (nv : Value) (run : Nat) (tv rv yv : Value) (irun : Nat) (ist : Int) (iv jv : Value) : HP := blk w 92 (tF h dl nv run tv rv yv irun ist iv jv).toArray
abbrev cP (l : List Nat) : List Value := l.map fun (n : Nat) => aY n
abbrev cL (v : Value) (l : List Nat) : HP := row 51 1 v l.length (cP l)
theorem tP (n : Nat) : List.replicate n (.int .i64 0) = bp (List.replicate n 0) := by simp [bp]
theorem tO (n : Nat) : List.replicate n (.int .u64 0) = cP (List.replicate n 0) := by simp [cP]
theorem vL : e7 Tryz.prog 51 (.int .u64 0) 1 8 := by unfold e7; kernel_rfl
theorem oh {a b n : Nat} {r : List HP} (h : n ≤ 12) : Ent (blk a 51 (List.replicate n (Value.int .u64 0)).toArray :: blk b 3 (List.replicate n (Value.int .i64 0)).toArray :: r) (cL (.slice (some ⟨a, 0, none⟩) n n) (List.replicate n 0) :: aF (.slice (some ⟨b, 0, none⟩) n n) (List.replicate n 0) :: r) := by
 have hm : n ≤ maxLen := by unfold maxLen; omega
 show Ent _ (row 51 1 _ (List.replicate n 0).length (cP (List.replicate n 0)) :: row 3 1 _ (List.replicate n (0 : Int)).length (bp (List.replicate n 0)) :: r)
 rw [List.length_replicate, List.length_replicate, ← tO, ← tP]
 exact (cC (Nat.le_refl _) hm (by simp) (by rw [List.take_of_length_le (by simp)])).trans (Ent.cons (cC (Nat.le_refl _) hm (by simp) (by rw [List.take_of_length_le (by simp)])))
set_option maxRecDepth 20000 in
set_option maxHeartbeats 2000000 in
theorem ua (dl : Int) (ns : List FK.Node) (A : Option Addr) (c : Nat) (hfit : FK.Fit ⟨dl, ns⟩) : Does Tryz.prog Good 14 [.agg #[.int .i64 dl, .slice A ns.length c]].toArray [nodesOwn (.slice A ns.length c) ns] fun v m => ∃ w h f e j d p l R rv yv, v = aO w ∧ FK.Seen 2 ⟨dl, ns⟩ (FK.o8.submit ⟨dl, ns⟩) R (fun _ => 0) [] ∧ FK.Lg 3000 l (FK.o8.submit ⟨dl, ns⟩) ∧ m = dj w h dl (.slice A ns.length c) 2 (.slice none 0 0) rv yv 0 0 (.slice none 0 0) (.slice none 0 0) :: cL rv (List.replicate ns.length 0) :: aF yv (List.replicate ns.length 0) :: nodesOwn (.slice A ns.length c) ns :: fO h f e j d p (FK.o8.submit ⟨dl, ns⟩) l := by
 have hff := xq hfit
 have hsm : ∀ n ∈ ns, (i64 n.CJ ∧ i64 n.close ∧ i64 n.beat ∧ i64 n.base ∧ i64 n.cap ∧ i64 n.CK) ∧ ∀ x ∈ n.after, i64 x := l7 hfit
 have h12 : ns.length ≤ 12 := hfit.head.2.2
 obtain ⟨R, hSeen, -, -⟩ := FK.Seen.begin FK.pf (by decide) hfit rfl FK.rH
 refine Does.body Tryz.func14 Z Z fun E fr hE => ?_
 refine ai (At.seq (At.region (L.op Z (cb Z Z fun b1 => (L.as Z Z (L.nil (At.then (At.seq (At.region ?_)))))))))
 refine L.op Z (ah Z Z Z hE qR (Ent.refl _) ?_)
 rintro v m ⟨h, f, e, j, d, p, rfl, rfl⟩
 refine bF ?_
 obtain ⟨l0, hl0, hlg0⟩ := sG
 rw [hl0]
 refine L.as Z Z (L.nil (At.then (At.seq (At.seq (At.region (L.mv Z Z (L.pure Z (cX Z Z Z) (L.nil (At.then (aj Z (At.skip (At.then (At.seq ?_)))))))))))))
 refine At.ent (l' := nodesOwn (.slice A ns.length c) ns :: blk b1 29 #[.int .i64 dl, .slice A ns.length c] :: aW h d f :: cD f e j :: ap e p FK.o8 :: au j d FK.J0 :: ak d (FK.cw l0 1) :: fr) (by show Ent (aW h d f :: cD f e j :: ap e p FK.o8 :: au j d FK.J0 :: ak d (FK.cw l0 1) :: blk b1 29 #[.int .i64 dl, .slice A ns.length c] :: _) _; exact al) ?_
 refine At.region (L.val Z (ao (vs := [.int .i64 dl, .slice A ns.length c]) Z Z Z Z) (aw Z) (L.op Z (fE Z Z Z hE (lE dl ns A c hff) (nodesOwn.at .head hsm) ?_)))
 rintro v m hv
 obtain ⟨bv, rfl, rfl⟩ : ∃ bv, v = .tuple #[bv, .int .i64 0, .int .i64 (-1)] ∧ m = [bO bv (FK.bN ⟨dl, ns⟩)] := by
  rcases hv with ⟨_, h⟩ | ⟨h, _⟩
  · exact h
  · exact absurd (by rw [hfit.chk]) h
 refine ai (aC .head ?_)
 rintro A4 c4 rfl f1 f2 - - -
 obtain ⟨hreads, hnil⟩ := il f1 f2
 refine At.ent (l' := aW h d f :: cD f e j :: ap e p FK.o8 :: au j d FK.J0 :: ak d (FK.cw l0 1) :: bO (.slice A4 (FK.bN ⟨dl, ns⟩).length c4) (FK.bN ⟨dl, ns⟩) :: nodesOwn (.slice A ns.length c) ns :: blk b1 29 #[.int .i64 dl, .slice A ns.length c] :: fr) al ?_
 refine L.mv Z Z (L.ex Z Z Z (L.ex Z Z Z (L.ex Z Z Z (L.as Z Z (L.as Z Z (L.as Z Z (L.nil (At.then (At.seq (At.region (L.mv Z Z (L.mv Z Z ?_))))))))))))
 refine L.op Z (ah Z Z Z hE cV (Ent.refl _) ?_)
 rintro v m ⟨rfl, rfl⟩
 refine aL ?_
 refine L.op Z (ah Z Z Z hE (lG (h := h) (f := f) (e := e) (j := j) (d := d) (p := p) (J := FK.J0) (σ := FK.cw l0 1) (bs := FK.bN ⟨dl, ns⟩) (fl := ⟨dl, ns⟩) FK.pf (by decide) Z (pH hlg0 (by omega)) (FK.kc l0) hreads hnil (by have := hfit.encLen; omega) (FK.nh hfit) hfit Z (by decide) (by decide)) (Ent.refl _) ?_)
 rintro v m ⟨rfl, S0, p', hcut, rfl⟩
 refine nn ?_
 obtain rfl := FK.cut8 hcut
 rw [show FK.J0.n = 0 from rfl, FK.rK]
 have hlen := hfit.encLen
 have hlg : FK.Lg 3000 (l0 ++ [1 :: FK.bN ⟨dl, ns⟩]) (FK.o8.submit ⟨dl, ns⟩) := by
  refine (hlg0.snoc ⟨FK.pf, by decide, by decide, by decide, by decide⟩ (by simp only [List.length_cons]; omega) (FK.Redo.submit (FK.nh hfit) hfit (by omega) (show FK.rh FK.o8 FK.o8 from Z) (fun S1 h => FK.cut8 h))).mono (by simp only [List.length_cons]; omega)
 refine L.mv Z Z (L.ex Z Z Z (L.ex Z Z Z (L.ex Z Z Z (L.as Z Z (L.as Z Z (L.as Z Z (L.nil (At.then (At.seq (At.seq (At.region (L.mv Z Z (L.pure Z (bX Z Z Z) (L.mv Z Z (lT Z Z Z (ae Z) (lT Z Z Z (bX Z Z Z) (L.pure Z (aq Z Z Z) (L.nil (At.then ?_)))))))))))))))))))
 refine aj Z (At.skip (At.then (At.seq (Dr.start Z (dP 0 Z Z (ae Z) (dL 1 Z Z (ao (vs := [.int .i64 dl, .slice A ns.length c]) Z Z Z Z) (aw Z) (dP 2 Z Z (ae Z) (dP 3 Z Z (ab (off := 1) Z Z) (dL 4 Z Z (aa Z Z) (ag Z) (dP 5 Z Z (aM Z Z) (dP 7 Z Z (ab (off := 1) Z Z) (dL 8 Z Z (aa Z Z) (ag Z) (dP 9 Z Z (aM Z Z) ?_)))))))))))))
 refine gJ 6 10 Z Z Z Z (by kernel_rfl) (qi (z := .int .u64 0) (bytes := 8) Z Z vL Z Z (by omega) (by omega) fun g39 => ?_) (qi (z := .int .i64 0) (bytes := 8) Z Z fF Z Z (by omega) (by omega) fun g43 => ?_)
 ·
  refine dK [true, true, true] (Kept.cons (ag Z) (Kept.cons (ag Z) (Kept.cons (aw Z) Kept.nil))) ?_
  refine dR 10 Z Z (qi (z := .int .i64 0) (bytes := 8) Z Z fF Z Z (by omega) (by omega) fun g43 => ?_)
  refine dK [true, true, true] (Kept.cons (ag Z) (Kept.cons (ag Z) (Kept.cons (aw Z) Kept.nil))) (dP 11 Z Z (bn (ps := [(0, .tmp 33), (1, .tmp 34), (2, .tmp 35), (4, .tmp 39), (5, .tmp 43)]) (vs := [aO h, .agg #[.int .i64 dl, .slice A ns.length c], aY 2, .slice (some ⟨g39, 0, none⟩) ns.length ns.length, .slice (some ⟨g43, 0, none⟩) ns.length ns.length]) (cs := (tF h dl (.slice A ns.length c) 2 (.slice none 0 0) (.slice (some ⟨g39, 0, none⟩) ns.length ns.length) (.slice (some ⟨g43, 0, none⟩) ns.length ns.length) 0 0 (.slice none 0 0) (.slice none 0 0)).toArray) Z Z Z Z Z) (dR 12 Z Z (cb Z Z fun b45 => (dK [true, true, true] (Kept.cons (ag Z) (Kept.cons (ag Z) (Kept.cons (aw Z) Kept.nil))) (dP 13 Z Z (ax Z) (dE (At.then (At.ret (aD b45 (tF h dl (.slice A ns.length c) 2 (.slice none 0 0) (.slice (some ⟨g39, 0, none⟩) ns.length ns.length) (.slice (some ⟨g43, 0, none⟩) ns.length ns.length) 0 0 (.slice none 0 0) (.slice none 0 0)).toArray Z ?_)))))))))
  refine At.ent (l' := dj b45 h dl (.slice A ns.length c) 2 (.slice none 0 0) (.slice (some ⟨g39, 0, none⟩) ns.length ns.length) (.slice (some ⟨g43, 0, none⟩) ns.length ns.length) 0 0 (.slice none 0 0) (.slice none 0 0) :: blk g39 51 (List.replicate ns.length (Value.int .u64 0)).toArray :: blk g43 3 (List.replicate ns.length (Value.int .i64 0)).toArray :: nodesOwn (.slice A ns.length c) ns :: aW h d f :: cD f e j :: ap e p' (FK.o8.submit ⟨dl, ns⟩) :: au j d FK.J0 :: ak d (FK.cw (l0 ++ [1 :: FK.bN ⟨dl, ns⟩]) 1) :: fr) al ?_
  refine At.ent (Ent.cons (oh h12)) ?_
  exact aA (dj b45 h dl (.slice A ns.length c) 2 (.slice none 0 0) (.slice (some ⟨g39, 0, none⟩) ns.length ns.length) (.slice (some ⟨g43, 0, none⟩) ns.length ns.length) 0 0 (.slice none 0 0) (.slice none 0 0) :: cL (.slice (some ⟨g39, 0, none⟩) ns.length ns.length) (List.replicate ns.length 0) :: aF (.slice (some ⟨g43, 0, none⟩) ns.length ns.length) (List.replicate ns.length 0) :: nodesOwn (.slice A ns.length c) ns :: fO h f e j d p' (FK.o8.submit ⟨dl, ns⟩) (l0 ++ [1 :: FK.bN ⟨dl, ns⟩])) Z Z ⟨b45, h, f, e, j, d, p', _, R, _, _, rfl, hSeen, hlg, rfl⟩ (Ent.refl _)
 ·
  refine dK [true, true, true] (Kept.cons (ag Z) (Kept.cons (ag Z) (Kept.cons (aw Z) Kept.nil))) ?_
  refine dR 6 Z Z (qi (z := .int .u64 0) (bytes := 8) Z Z vL Z Z (by omega) (by omega) fun g39 => ?_)
  refine dK [true, true, true] (Kept.cons (ag Z) (Kept.cons (ag Z) (Kept.cons (aw Z) Kept.nil))) (dP 11 Z Z (bn (ps := [(0, .tmp 33), (1, .tmp 34), (2, .tmp 35), (4, .tmp 39), (5, .tmp 43)]) (vs := [aO h, .agg #[.int .i64 dl, .slice A ns.length c], aY 2, .slice (some ⟨g39, 0, none⟩) ns.length ns.length, .slice (some ⟨g43, 0, none⟩) ns.length ns.length]) (cs := (tF h dl (.slice A ns.length c) 2 (.slice none 0 0) (.slice (some ⟨g39, 0, none⟩) ns.length ns.length) (.slice (some ⟨g43, 0, none⟩) ns.length ns.length) 0 0 (.slice none 0 0) (.slice none 0 0)).toArray) Z Z Z Z Z) (dR 12 Z Z (cb Z Z fun b45 => (dK [true, true, true] (Kept.cons (ag Z) (Kept.cons (ag Z) (Kept.cons (aw Z) Kept.nil))) (dP 13 Z Z (ax Z) (dE (At.then (At.ret (aD b45 (tF h dl (.slice A ns.length c) 2 (.slice none 0 0) (.slice (some ⟨g39, 0, none⟩) ns.length ns.length) (.slice (some ⟨g43, 0, none⟩) ns.length ns.length) 0 0 (.slice none 0 0) (.slice none 0 0)).toArray Z ?_)))))))))
  refine At.ent (l' := dj b45 h dl (.slice A ns.length c) 2 (.slice none 0 0) (.slice (some ⟨g39, 0, none⟩) ns.length ns.length) (.slice (some ⟨g43, 0, none⟩) ns.length ns.length) 0 0 (.slice none 0 0) (.slice none 0 0) :: blk g39 51 (List.replicate ns.length (Value.int .u64 0)).toArray :: blk g43 3 (List.replicate ns.length (Value.int .i64 0)).toArray :: nodesOwn (.slice A ns.length c) ns :: aW h d f :: cD f e j :: ap e p' (FK.o8.submit ⟨dl, ns⟩) :: au j d FK.J0 :: ak d (FK.cw (l0 ++ [1 :: FK.bN ⟨dl, ns⟩]) 1) :: fr) al ?_
  refine At.ent (Ent.cons (oh h12)) ?_
  exact aA (dj b45 h dl (.slice A ns.length c) 2 (.slice none 0 0) (.slice (some ⟨g39, 0, none⟩) ns.length ns.length) (.slice (some ⟨g43, 0, none⟩) ns.length ns.length) 0 0 (.slice none 0 0) (.slice none 0 0) :: cL (.slice (some ⟨g39, 0, none⟩) ns.length ns.length) (List.replicate ns.length 0) :: aF (.slice (some ⟨g43, 0, none⟩) ns.length ns.length) (List.replicate ns.length 0) :: nodesOwn (.slice A ns.length c) ns :: fO h f e j d p' (FK.o8.submit ⟨dl, ns⟩) (l0 ++ [1 :: FK.bN ⟨dl, ns⟩])) Z Z ⟨b45, h, f, e, j, d, p', _, R, _, _, rfl, hSeen, hlg, rfl⟩ (Ent.refl _)
abbrev nS : Value := .slice none 0 0
abbrev sX (g n c : Nat) : Value := .slice (some ⟨g, 0, none⟩) n c
abbrev q3 (g : Nat) (R : FK.Rn) (c : Nat) (f : FK.Sp → Int) : HP := row 3 1 (sX g R.CF.length c) R.CF.length (bp (R.CF.map f))
abbrev q4 (g : Nat) (R : FK.Rn) (c : Nat) (f : FK.Sp → Int) : HP := row 3 1 (sX g R.CF.length c) (R.CF.map f).length (bp (R.CF.map f))
abbrev q5 (g : Nat) (R : FK.Rn) (c : Nat) (f : FK.Sp → Int) : HP := aF (sX g R.CF.length c) (R.CF.map f)
abbrev bW (w h : Nat) (dl : Int) (X Y : Value) (gr : Nat) (rds : List Nat) (cr gy : Nat) (R : FK.Rn) (cy gi ci gj cj : Nat) : HP := dj w h dl X 2 Y (sX gr rds.length cr) (sX gy R.CF.length cy) 2 R.state (sX gi R.CF.length ci) (sX gj R.CF.length cj)
end Go.Proofs.YtmeegfamopaljaaGreatDoor

namespace FK
section
variable {a b : List Int} {k : Nat}
def gX (a b : List Int) (k : Nat) : List Int := a.take k ++ b.drop k
theorem AS (h : a.length = b.length) (hk : k < b.length) : (gX a b k)[k]? = b[k]? := by
 unfold gX
 rw [List.getElem?_append_right (by simp; omega)]
 simp
 congr 1
 omega
theorem zh {x : Int} (h : a.length = b.length) (hx : a[k]? = some x) : (gX a b k).set k x = gX a b (k + 1) := by
 have hk := (List.getElem?_eq_some_iff.1 hx).1
 apply List.ext_getElem?
 intro j
 unfold gX
 by_cases hj : j = k
 · subst hj
   rw [List.getElem?_set_self (by simp; omega), List.getElem?_append_left (by simp; omega), List.getElem?_take, if_pos (by omega), hx]
 · rw [List.getElem?_set_ne (Ne.symm hj)]
   by_cases hlt : j < k
   · rw [List.getElem?_append_left (by simp; omega), List.getElem?_append_left (by simp; omega), List.getElem?_take, List.getElem?_take, if_pos hlt, if_pos (by omega)]
   · rw [List.getElem?_append_right (by simp; omega), List.getElem?_append_right (by simp; omega), List.getElem?_drop, List.getElem?_drop]
     congr 1
     simp
     omega
theorem wX (a b : List Int) : gX a b 0 = b := by simp [gX]
theorem zi (h : a.length = b.length) (hk : a.length ≤ k) : gX a b k = a := by
 unfold gX
 rw [List.take_of_length_le hk, List.drop_eq_nil_of_le (by omega), List.append_nil]
end
end FK
namespace Go.Proofs.YtmeegfamopaljaaGreatDoor
open Go Go.RowKit Go.SL
section
variable {k : Nat} {ns : List FK.Node} {R : FK.Rn} {l : List Int} {s : FK.Sp}
theorem ic {x a b c d e : HP} {r : List HP} : Ent (x :: a :: b :: c :: d :: e :: r) ([a, b, c, d, e] ++ (x :: r)) := by
 show Ent _ (a :: b :: c :: d :: e :: x :: r)
 exact al
theorem qG {a b c : List HP} : Ent (a ++ (b ++ c)) (b ++ (a ++ c)) := by
 refine Ent.perm ?_
 rw [← List.append_assoc, ← List.append_assoc]
 exact List.perm_append_comm.append_right c
theorem er (h : R.CF[k]? = some s) : (bp (R.CF.map (·.state)))[0 + k * 1]? = some (.int .i64 s.state) := by
 simp [bp, h]
theorem kG (h : R.CF[k]? = some s) : (bp (R.CF.map (·.CE)))[0 + k * 1]? = some (.int .i64 s.CE) := by
 simp [bp, h]
theorem qC {x : Int} (h : l[k]? = some x) : (bp l)[0 + k * 1]? = some (.int .i64 x) := by
 simp [bp, h]
theorem zA {x : Int} : (bp l).set (0 + k * 1) (.int .i64 x) = bp (l.set k x) := by
 simp [bp, List.map_set]
theorem m9 {vs : List Value} (j : Nat) {nd : FK.Node} {u : Value} (hvs : vs.length = ns.length) (hn : ns[k]? = some nd) (hu : vs[k]? = some u) (hj : j < 7) : (aZ ns vs)[0 + k * 7 + j]? = (av nd u)[j]? := by
 rw [Nat.zero_add]
 exact fo ns vs k j nd u hvs hn hu hj
set_option maxRecDepth 20000 in
set_option maxHeartbeats 10000000 in
theorem n9 {w h f e j d : Nat} {p : EA} {S : FK.En} {l : List (List UInt8)} {dl ist : Int} {A : Option Addr} {c irun : Nat} {tv rv yv iv jv : Value} {ys is : List Int}
 (hL : FK.Lone 2 ⟨dl, ns⟩ S R) (hyl : ys.length = ns.length) (hyt : ∀ (k : Nat) (y : Int) (s : FK.Sp), ys[k]? = some y → R.CF[k]? = some s → y ≤ s.CE)
 (hi : is = [] ∨ ∃ R0 : FK.Rn, is = R0.CF.map (·.state) ∧ ist = R0.state ∧ FK.Wt R0 R) :
 Does Tryz.prog Good 15 [aO w].toArray (fO h f e j d p S l ++ [dj w h dl (.slice A ns.length c) 2 tv rv yv irun ist iv jv, aF yv ys, aF iv is, nodesOwn (.slice A ns.length c) ns])
  fun v m => v = .bool true ∧ ∃ yv' iv' jv', m = fO h f e j d p S l ++ [dj w h dl (.slice A ns.length c) 2 tv rv yv' 2 R.state iv' jv', aF yv' (R.CF.map (·.CE)), aF iv' (R.CF.map (·.state)), aF jv' (R.CF.map (·.CE)), nodesOwn (.slice A ns.length c) ns] := by
 have hro := hL.ok.run 2 R hL.get
 have hlen : R.CF.length = ns.length := by rw [hro.len, hL.fl]
 have hfit : FK.Fit ⟨dl, ns⟩ := by have := hro.fl; rwa [hL.fl] at this
 have h12 : ns.length ≤ 12 := hfit.head.2.2
 have h1n : 1 ≤ ns.length := hfit.head.2.1
 have htl : (R.CF.map (·.CE)).length = ys.length := by rw [List.length_map, hlen, hyl]
 have hyR : ys.length = R.CF.length := by omega
 have hstl : (R.CF.map (·.state)).length = R.CF.length := by rw [List.length_map]
 have htrl : (R.CF.map (·.CE)).length = R.CF.length := by rw [List.length_map]
 refine Does.body Tryz.func15 Z Z fun E fr hE => ?_
 refine At.ent (l' := aW h d f :: cD f e j :: ap e p S :: au j d FK.J0 :: ak d (FK.cw l 1) :: dj w h dl (.slice A ns.length c) 2 tv rv yv irun ist iv jv :: aF yv ys :: aF iv is :: nodesOwn (.slice A ns.length c) ns :: fr) (Ent.refl _) ?_
 refine At.seq (At.region (L.as Z Z (L.nil (At.then ?_))))
 refine At.seq (At.cut (X := Nat × Nat × Nat × Nat × Nat) (fun x => [(4, .int .i64 0), (3, aO x.1), (2, .bool false), (0, aO w)]) (fun x => blk x.1 62 (bG 2 R.state (.slice (some ⟨x.2.1, 0, none⟩) R.CF.length x.2.2.1) (.slice (some ⟨x.2.2.2.1, 0, none⟩) R.CF.length x.2.2.2.2)).toArray :: row 3 1 (.slice (some ⟨x.2.1, 0, none⟩) R.CF.length x.2.2.1) R.CF.length (bp (R.CF.map (·.state))) :: row 3 1 (.slice (some ⟨x.2.2.2.1, 0, none⟩) R.CF.length x.2.2.2.2) R.CF.length (bp (R.CF.map (·.CE))) :: aW h d f :: cD f e j :: ap e p S :: au j d FK.J0 :: ak d (FK.cw l 1) :: dj w h dl (.slice A ns.length c) 2 tv rv yv irun ist iv jv :: aF yv ys :: aF iv is :: nodesOwn (.slice A ns.length c) ns :: fr) (fun _ => True) ?_ ?_)
 ·
  refine Dr.start Z (dP 0 Z Z (ae Z) (dP 1 Z Z (am Z) (dP 2 Z Z (ab (off := 0) Z Z) (dL 3 Z Z (aa Z Z) (ag Z) (dP 4 Z Z (ae Z) (dP 5 Z Z (am Z) (dP 6 Z Z (ab (off := 3) Z Z) (dL 7 Z Z (aa Z Z) (ag Z) ?_))))))))
  refine gJ 8 12 Z Z Z Z (by kernel_rfl) (ah Z Z Z hE (jy hL.ok hL.get) (Ent.refl _) ?_) (aN (z := .agg #[.int .u64 0, .int .i64 0, .slice none 0 0, .slice none 0 0]) Z Z fun b3 => ?_)
  ·
   rintro v m ⟨A2, c2, A3, c3, rfl, rfl⟩
   refine qL (dK [false, false] Kept.nil (dP 9 Z Z (ae Z) (dP 10 Z Z (bc Z Z) (dP 11 Z Z (bc Z Z) (dR 12 Z Z (aN (z := .agg #[.int .u64 0, .int .i64 0, .slice none 0 0, .slice none 0 0]) Z Z fun b3 => (dK [] Kept.nil ?_)))))))
   refine dR 13 Z Z (aK Z (m := 4) (vs := bG 2 R.state (.slice A2 R.CF.length c2) (.slice A3 R.CF.length c3)) Z Z Z Z (by simp [Value.oneCell']) (by show 0 + 4 ≤ 4; omega) ?_)
   refine aD b3 (bG 2 R.state (.slice A2 R.CF.length c2) (.slice A3 R.CF.length c3)).toArray Z (dK [] Kept.nil (dP 14 Z Z (ax Z) (dE ?_)))
   refine At.ent (l' := blk b3 62 (bG 2 R.state (.slice A2 R.CF.length c2) (.slice A3 R.CF.length c3)).toArray :: aF (.slice A2 R.CF.length c2) (R.CF.map (·.state)) :: aF (.slice A3 R.CF.length c3) (R.CF.map (·.CE)) :: aW h d f :: cD f e j :: ap e p S :: au j d FK.J0 :: ak d (FK.cw l 1) :: dj w h dl (.slice A ns.length c) 2 tv rv yv irun ist iv jv :: aF yv ys :: aF iv is :: nodesOwn (.slice A ns.length c) ns :: fr) al ?_
   refine aC (.tail .head) ?_
   intro A9 c9 hA9 hn9 hf9 _ _ _
   injection hA9 with hA9 _ _
   subst hA9
   obtain ⟨g2, rfl⟩ : ∃ g, A2 = some ⟨g, 0, none⟩ := by
    cases A2 with
    | none => have := (hn9 rfl).1; omega
    | some ad => obtain ⟨g, rfl⟩ := hf9 ad rfl; exact ⟨g, rfl⟩
   refine aC (.tail (.tail .head)) ?_
   intro A8 c8 hA8 hn8 hf8 _ _ _
   injection hA8 with hA8 _ _
   subst hA8
   obtain ⟨g3, rfl⟩ : ∃ g, A3 = some ⟨g, 0, none⟩ := by
    cases A3 with
    | none => have := (hn8 rfl).1; omega
    | some ad => obtain ⟨g, rfl⟩ := hf8 ad rfl; exact ⟨g, rfl⟩
   exact bb (b3, g2, c2, g3, c3) trivial ⟨rfl, rfl, rfl, rfl, trivial⟩ (by rw [← htrl]; show Ent (_ :: row 3 1 _ (R.CF.map (·.state)).length _ :: row 3 1 _ (R.CF.map (·.CE)).length _ :: _) _; rw [hstl, htrl]; exact Ent.refl _)
  ·
   refine dK [true, true] (Kept.cons (ag Z) (Kept.cons (ag Z) Kept.nil)) (dR 8 Z Z (ah Z Z Z hE (jy hL.ok hL.get) ic ?_))
   rintro v m ⟨A2, c2, A3, c3, rfl, rfl⟩
   refine qL (dK [false, false] Kept.nil (dP 9 Z Z (ae Z) (dP 10 Z Z (bc Z Z) (dP 11 Z Z (bc Z Z) ?_))))
   refine dR 13 Z Z (aK Z (m := 4) (vs := bG 2 R.state (.slice A2 R.CF.length c2) (.slice A3 R.CF.length c3)) Z Z Z Z (by simp [Value.oneCell']) (by show 0 + 4 ≤ 4; omega) ?_)
   refine aD b3 (bG 2 R.state (.slice A2 R.CF.length c2) (.slice A3 R.CF.length c3)).toArray Z (dK [] Kept.nil (dP 14 Z Z (ax Z) (dE ?_)))
   refine At.ent (l' := blk b3 62 (bG 2 R.state (.slice A2 R.CF.length c2) (.slice A3 R.CF.length c3)).toArray :: aF (.slice A2 R.CF.length c2) (R.CF.map (·.state)) :: aF (.slice A3 R.CF.length c3) (R.CF.map (·.CE)) :: aW h d f :: cD f e j :: ap e p S :: au j d FK.J0 :: ak d (FK.cw l 1) :: dj w h dl (.slice A ns.length c) 2 tv rv yv irun ist iv jv :: aF yv ys :: aF iv is :: nodesOwn (.slice A ns.length c) ns :: fr) al ?_
   refine aC (.tail .head) ?_
   intro A9 c9 hA9 hn9 hf9 _ _ _
   injection hA9 with hA9 _ _
   subst hA9
   obtain ⟨g2, rfl⟩ : ∃ g, A2 = some ⟨g, 0, none⟩ := by
    cases A2 with
    | none => have := (hn9 rfl).1; omega
    | some ad => obtain ⟨g, rfl⟩ := hf9 ad rfl; exact ⟨g, rfl⟩
   refine aC (.tail (.tail .head)) ?_
   intro A8 c8 hA8 hn8 hf8 _ _ _
   injection hA8 with hA8 _ _
   subst hA8
   obtain ⟨g3, rfl⟩ : ∃ g, A3 = some ⟨g, 0, none⟩ := by
    cases A3 with
    | none => have := (hn8 rfl).1; omega
    | some ad => obtain ⟨g, rfl⟩ := hf8 ad rfl; exact ⟨g, rfl⟩
   exact bb (b3, g2, c2, g3, c3) trivial ⟨rfl, rfl, rfl, rfl, trivial⟩ (by rw [← htrl]; show Ent (_ :: row 3 1 _ (R.CF.map (·.state)).length _ :: row 3 1 _ (R.CF.map (·.CE)).length _ :: _) _; rw [hstl, htrl]; exact Ent.refl _)
 rintro ⟨b3, g2, c2, g3, c3⟩ -
 refine At.ent (l' := blk b3 62 (bG 2 R.state (sX g2 R.CF.length c2) (sX g3 R.CF.length c3)).toArray :: q3 g2 R c2 (·.state) :: q3 g3 R c3 (·.CE) :: aW h d f :: cD f e j :: ap e p S :: au j d FK.J0 :: ak d (FK.cw l 1) :: dj w h dl (.slice A ns.length c) 2 tv rv yv irun ist iv jv :: aF yv ys :: aF iv is :: nodesOwn (.slice A ns.length c) ns :: fr) (Ent.refl _) ?_
 refine gL (.tail (.tail (.tail (.tail (.tail (.tail (.tail (.tail (.tail (.tail (.tail (.head)))))))))))) ?_
 intro vs hvs
 refine aC .head ?_
 intro A7 c7 hA7 hn7 hf7 hc71 hc72 hlen7
 injection hA7 with hA7 _ hc7
 subst hA7; subst hc7
 obtain ⟨gf, rfl⟩ : ∃ g, A = some ⟨g, 0, none⟩ := by
  cases A with
  | none => have := (hn7 rfl).1; omega
  | some ad => obtain ⟨g, rfl⟩ := hf7 ad rfl; exact ⟨g, rfl⟩
 have hfc : c ≤ 9223372036854775807 := by unfold maxLen at hc72; omega
 refine At.ent (l' := aF yv ys :: aF iv is :: row 46 7 (sX gf ns.length c) ns.length (aZ ns vs) :: blk b3 62 (bG 2 R.state (sX g2 R.CF.length c2) (sX g3 R.CF.length c3)).toArray :: q3 g2 R c2 (·.state) :: q3 g3 R c3 (·.CE) :: aW h d f :: cD f e j :: ap e p S :: au j d FK.J0 :: ak d (FK.cw l 1) :: dj w h dl (sX gf ns.length c) 2 tv rv yv irun ist iv jv :: (bf vs ns ++ fr)) ?_ ?_
 · have hmid := qG (a := bf vs ns) (b := [blk b3 62 (bG 2 R.state (sX g2 R.CF.length c2) (sX g3 R.CF.length c3)).toArray, q3 g2 R c2 (·.state), q3 g3 R c3 (·.CE), aW h d f, cD f e j, ap e p S, au j d FK.J0, ak d (FK.cw l 1), dj w h dl (sX gf ns.length c) 2 tv rv yv irun ist iv jv, aF yv ys, aF iv is]) (c := fr)
   refine Ent.trans (Ent.cons hmid) ?_
   show Ent (row 46 7 (sX gf ns.length c) ns.length (aZ ns vs) :: blk b3 62 (bG 2 R.state (sX g2 R.CF.length c2) (sX g3 R.CF.length c3)).toArray :: q3 g2 R c2 (·.state) :: q3 g3 R c3 (·.CE) :: aW h d f :: cD f e j :: ap e p S :: au j d FK.J0 :: ak d (FK.cw l 1) :: dj w h dl (sX gf ns.length c) 2 tv rv yv irun ist iv jv :: aF yv ys :: aF iv is :: (bf vs ns ++ fr)) _
   exact al
 refine aC .head ?_
 intro Ay cy hyv hny hfy hcy1 hcy2 _
 rw [hyR] at hyv
 subst hyv
 obtain ⟨gy, rfl⟩ : ∃ g, Ay = some ⟨g, 0, none⟩ := by
  cases Ay with
  | none => have := (hny rfl).1; omega
  | some ad => obtain ⟨g, rfl⟩ := hfy ad rfl; exact ⟨g, rfl⟩
 refine aC (.tail .head) ?_
 rintro Ai ci rfl hni hfi hci1 hci2 -
 refine At.ent (l' := row 3 1 (sX gy R.CF.length cy) R.CF.length (bp (FK.gX (R.CF.map (·.CE)) ys 0)) :: row 46 7 (sX gf ns.length c) ns.length (aZ ns vs) :: blk b3 62 (bG 2 R.state (sX g2 R.CF.length c2) (sX g3 R.CF.length c3)).toArray :: q3 g2 R c2 (·.state) :: q3 g3 R c3 (·.CE) :: aW h d f :: cD f e j :: ap e p S :: au j d FK.J0 :: ak d (FK.cw l 1) :: dj w h dl (sX gf ns.length c) 2 tv rv (sX gy R.CF.length cy) irun ist (.slice Ai is.length ci) jv :: row 3 1 (.slice Ai is.length ci) is.length (bp is) :: (bf vs ns ++ fr)) (by rw [FK.wX]; show Ent (row 3 1 _ ys.length _ :: _) _; rw [hyR]; exact al) ?_
 refine At.seq (At.seq (Dr.start Z (dP 0 Z Z (ae Z) (dP 1 Z Z (bX (r := false) Z Z Z) (dP 2 Z Z (ae Z) (dG 3 Z Z Z Z (ab (off := 2) Z Z) (dH 4 Z Z Z Z (aa Z Z) (ag Z) (dG 5 Z Z Z Z (aM Z Z) (dG 6 Z Z Z Z (ae Z) (dG 7 Z Z Z Z (am Z) (dG 8 Z Z Z Z (ab (off := 1) Z Z) (dG 9 Z Z Z Z (ab (off := 1) Z Z) (dH 10 Z Z Z Z (aa Z Z) (ag Z) (dG 11 Z Z Z Z (aM Z Z) (dG 12 Z Z Z Z (bX (r := false) Z Z (by simp [hlen])) (dP 13 Z Z (aq Z Z Z) (dE (At.then (aj Z ?_)))))))))))))))))))
 refine At.skip (At.then (At.seq (At.region (L.as Z Z (L.nil (At.then (At.seq (At.seq (At.region (L.as Z Z (L.nil (At.then (At.block ?_)))))))))))))
 refine bk (X := Nat × Bool) (fun x => [(6, .int .i64 x.1), (5, .bool x.2), (3, aO b3), (2, .bool false), (0, aO w)]) (fun x => row 3 1 (sX gy R.CF.length cy) R.CF.length (bp (FK.gX (R.CF.map (·.CE)) ys x.1)) :: row 46 7 (sX gf ns.length c) ns.length (aZ ns vs) :: blk b3 62 (bG 2 R.state (sX g2 R.CF.length c2) (sX g3 R.CF.length c3)).toArray :: q3 g2 R c2 (·.state) :: q3 g3 R c3 (·.CE) :: aW h d f :: cD f e j :: ap e p S :: au j d FK.J0 :: ak d (FK.cw l 1) :: dj w h dl (sX gf ns.length c) 2 tv rv (sX gy R.CF.length cy) irun ist (.slice Ai is.length ci) jv :: row 3 1 (.slice Ai is.length ci) is.length (bp is) :: (bf vs ns ++ fr)) (fun x => x.1 ≤ R.CF.length ∧ (x.2 = true ↔ ∀ (j : Nat) (s : FK.Sp), j < x.1 → R.CF[j]? = some s → s.state = 5)) (fun x => R.CF.length - x.1) (0, true) ⟨Nat.zero_le _, by simp⟩ ⟨rfl, rfl, rfl, rfl, rfl, trivial⟩ (Ent.refl _) ?_
 rintro ⟨k, b⟩ ⟨hk, hb⟩
 simp only at hk hb
 refine At.ent (l' := row 3 1 (sX gy R.CF.length cy) R.CF.length (bp (FK.gX (R.CF.map (·.CE)) ys k)) :: row 46 7 (sX gf ns.length c) ns.length (aZ ns vs) :: blk b3 62 (bG 2 R.state (sX g2 R.CF.length c2) (sX g3 R.CF.length c3)).toArray :: q3 g2 R c2 (·.state) :: q3 g3 R c3 (·.CE) :: aW h d f :: cD f e j :: ap e p S :: au j d FK.J0 :: ak d (FK.cw l 1) :: dj w h dl (sX gf ns.length c) 2 tv rv (sX gy R.CF.length cy) irun ist (.slice Ai is.length ci) jv :: row 3 1 (.slice Ai is.length ci) is.length (bp is) :: (bf vs ns ++ fr)) (Ent.refl _) ?_
 refine At.seq (At.seq (At.region (L.mv Z Z (aI 2 Z Z Z (bd Z Z Z Z (L.pure Z (aM Z Z) (L.pure Z (bl Z Z Z) (L.nil (At.then ?_)))))))))
 refine aE Z (fun c40 => ?_) (fun c40 => ?_)
 ·
  have hlt : k < R.CF.length := by have : (k : Int) < (R.CF.length : Int) := c40; omega
  have hln : k < ns.length := by omega
  have hly : k < ys.length := by omega
  obtain ⟨s, hs⟩ : ∃ s, R.CF[k]? = some s := ⟨R.CF[k], List.getElem?_eq_getElem hlt⟩
  obtain ⟨nd, cN⟩ : ∃ nd, ns[k]? = some nd := ⟨ns[k], List.getElem?_eq_getElem hln⟩
  obtain ⟨u, hu⟩ : ∃ u, vs[k]? = some u := ⟨vs[k]'(by omega), by simp⟩
  obtain ⟨y, hy⟩ : ∃ y, ys[k]? = some y := ⟨ys[k], List.getElem?_eq_getElem hly⟩
  have hndF : R.fl.CG[k]? = some nd := by rw [hL.fl]; exact cN
  have hsp := hro.sp k s nd hs hndF
  have hyle := hyt k y s hy hs
  have htb := hsp.trb
  refine At.skip (At.then ?_)
  refine At.seq (At.cut (X := Bool) (fun x => [(5, .bool x), (6, .int .i64 k), (3, aO b3), (2, .bool false), (0, aO w)]) (fun _ => row 3 1 (sX gy R.CF.length cy) R.CF.length (bp (FK.gX (R.CF.map (·.CE)) ys (k + 1))) :: row 46 7 (sX gf ns.length c) ns.length (aZ ns vs) :: blk b3 62 (bG 2 R.state (sX g2 R.CF.length c2) (sX g3 R.CF.length c3)).toArray :: q3 g2 R c2 (·.state) :: q3 g3 R c3 (·.CE) :: aW h d f :: cD f e j :: ap e p S :: au j d FK.J0 :: ak d (FK.cw l 1) :: dj w h dl (sX gf ns.length c) 2 tv rv (sX gy R.CF.length cy) irun ist (.slice Ai is.length ci) jv :: row 3 1 (.slice Ai is.length ci) is.length (bp is) :: (bf vs ns ++ fr)) (fun x => (x = true ↔ ∀ (j : Nat) (s : FK.Sp), j < k + 1 → R.CF[j]? = some s → s.state = 5)) ?_ ?_)
  ·
   refine At.block (At.seq (At.seq (Dr.start Z (dP 0 Z Z (ab (off := 3) Z Z) (dL 1 Z Z (aa Z Z) (ag Z) (dP 2 Z Z (ae Z) (dP 3 Z Z (aT (z := 1) Z Z Z Z hlt) (dL 4 Z Z (aa (v := .int .i64 s.CE) Z Z) (bJ (.tail (.tail (.tail (.tail (.head))))) (kG hs)) (dP 5 Z Z (ae Z) (dP 6 Z Z (am Z) (dP 7 Z Z (ab (off := 1) Z Z) (dP 8 Z Z (ab (off := 1) Z Z) (dL 9 Z Z (aa Z Z) (ag Z) (dP 10 Z Z (ae Z) (dP 11 Z Z (aT (z := 7) Z Z Z Z hln) (dP 12 Z Z (ab (off := 0) Z Z) (dL 13 Z Z (aa (v := .int .i64 nd.CJ) Z Z) (bJ (.tail (.head)) (m9 0 hvs cN hu (by omega))) (dP 14 Z Z (cG (r := false) Z Z (decide_eq_false (by omega))) (dP 15 Z Z (ae Z) ?_)))))))))))))))))))
   refine dG 16 Z Z Z Z (ab (off := 3) Z Z) (dH 17 Z Z Z Z (aa Z Z) (ag Z) (dG 18 Z Z Z Z (ae Z) (dG 19 Z Z Z Z (aT (z := 1) Z Z Z Z hlt) (dH 20 Z Z Z Z (aa (v := .int .i64 s.CE) Z Z) (bJ (.tail (.tail (.tail (.tail (.head))))) (kG hs)) (dG 21 Z Z Z Z (ae Z) (dG 22 Z Z Z Z (am Z) (dG 23 Z Z Z Z (ab (off := 6) Z Z) (dH 24 Z Z Z Z (aa Z Z) (ag Z) (dG 25 Z Z Z Z (ae Z) (dG 26 Z Z Z Z (aT (z := 1) Z Z Z Z hlt) ?_))))))))))
   refine dH 27 Z Z Z Z (aa (v := .int .i64 y) Z Z) (bJ .head (qC (by rw [FK.AS htl hly]; exact hy))) ?_
   refine dG 28 Z Z Z Z (bl (r := false) Z Z (decide_eq_false (by omega))) (dP 29 Z Z (aq Z Z Z) (dE (At.then (aj Z (At.skip (At.then (At.seq (Dr.start Z (dP 0 Z Z (ae Z) (dP 1 Z Z (am Z) (dP 2 Z Z (ab (off := 6) Z Z) (dL 3 Z Z (aa Z Z) (ag Z) (dP 4 Z Z (ae Z) (dP 5 Z Z (ab (off := 3) Z Z) (dL 6 Z Z (aa Z Z) (ag Z) (dP 7 Z Z (ae Z) (dP 8 Z Z (aT (z := 1) Z Z Z Z hlt) (dL 9 Z Z (aa (v := .int .i64 s.CE) Z Z) (bJ (.tail (.tail (.tail (.tail (.head))))) (kG hs)) (dP 10 Z Z (aT (z := 1) Z Z Z Z hlt) ?_)))))))))))))))))))
   refine dR 11 Z Z (dZ .head Z Z Z Z (by omega) ?_)
   rw [zA, FK.zh htl (by rw [List.getElem?_map, hs]; rfl)]
   refine dK [false, false, false] Kept.nil (dE (At.then (At.seq (At.region (L.as Z Z (L.nil (At.then ?_)))))))
   refine At.seq (At.cut (X := Int) (fun x => [(7, .int .i64 x), (6, .int .i64 k), (5, .bool b), (3, aO b3), (2, .bool false), (0, aO w)]) (fun _ => row 3 1 (sX gy R.CF.length cy) R.CF.length (bp (FK.gX (R.CF.map (·.CE)) ys (k + 1))) :: row 46 7 (sX gf ns.length c) ns.length (aZ ns vs) :: blk b3 62 (bG 2 R.state (sX g2 R.CF.length c2) (sX g3 R.CF.length c3)).toArray :: q3 g2 R c2 (·.state) :: q3 g3 R c3 (·.CE) :: aW h d f :: cD f e j :: ap e p S :: au j d FK.J0 :: ak d (FK.cw l 1) :: dj w h dl (sX gf ns.length c) 2 tv rv (sX gy R.CF.length cy) irun ist (.slice Ai is.length ci) jv :: row 3 1 (.slice Ai is.length ci) is.length (bp is) :: (bf vs ns ++ fr)) (fun x => (x = 5 ∨ x = 6 ∨ x = 7) → s.state = x) ?_ ?_)
   ·
    refine At.seq ?_
    refine At.ent (l' := row 3 1 (sX gy R.CF.length cy) R.CF.length (bp (FK.gX (R.CF.map (·.CE)) ys (k + 1))) :: row 46 7 (sX gf ns.length c) ns.length (aZ ns vs) :: blk b3 62 (bG 2 R.state (sX g2 R.CF.length c2) (sX g3 R.CF.length c3)).toArray :: q3 g2 R c2 (·.state) :: q3 g3 R c3 (·.CE) :: aW h d f :: cD f e j :: ap e p S :: au j d FK.J0 :: ak d (FK.cw l 1) :: dj w h dl (sX gf ns.length c) 2 tv rv (sX gy R.CF.length cy) irun ist (.slice Ai is.length ci) jv :: row 3 1 (.slice Ai is.length ci) is.length (bp is) :: (bf vs ns ++ fr)) (Ent.refl _) ?_
    refine At.region (L.mv Z Z (aR Z Z (aI 7 Z Z Z (aI 2 Z Z Z (bd Z Z Z Z (L.pure Z (aM Z Z) (L.pure Z (cG Z Z Z) (L.nil (At.then ?_)))))))))
    refine aE Z (fun c90 => ?_) (fun c90 => ?_)
    ·
     have hne : is ≠ [] := by rintro rfl; exact absurd c90 (by simp)
     obtain ⟨R0, hR0, hst0, hwt⟩ : ∃ R0 : FK.Rn, is = R0.CF.map (·.state) ∧ ist = R0.state ∧ FK.Wt R0 R := hi.resolve_left hne
     have hl0 : k < R0.CF.length := by rw [← hwt.len]; exact hlt
     obtain ⟨s0, hs0⟩ : ∃ s0, R0.CF[k]? = some s0 := ⟨R0.CF[k], List.getElem?_eq_getElem hl0⟩
     have hli : k < is.length := by rw [hR0, List.length_map]; exact hl0
     have hik : is[k]? = some s0.state := by rw [hR0, List.getElem?_map, hs0]; rfl
     obtain ⟨gi, rfl⟩ : ∃ g, Ai = some ⟨g, 0, none⟩ := by
      cases Ai with
      | none => have := (hni rfl).1; omega
      | some ad => obtain ⟨g, rfl⟩ := hfi ad rfl; exact ⟨g, rfl⟩
     refine At.region (L.mv Z Z (aR Z Z (aI 7 Z Z Z (aI 2 Z Z Z (bd Z Z Z Z (L.mv Z Z (L.pure Z (aT (z := 1) Z Z Z Z hli) (L.val Z (aa (v := .int .i64 s0.state) Z Z) (bJ (.tail (.tail (.tail (.tail (.tail (.tail (.tail (.tail (.tail (.tail (.tail (.head)))))))))))) (qC hik)) (L.as Z Z (L.nil ?_))))))))))
     exact bb s0.state (fun hx => by rw [← (hwt.tr k s0 s hs0 hs).2 (FK.over_iff.2 hx)]) ⟨rfl, rfl, rfl, rfl, rfl, rfl, trivial⟩ (Ent.refl _)
    ·
     refine At.skip ?_
     exact bb 0 (fun hx => by omega) ⟨rfl, rfl, rfl, rfl, rfl, rfl, trivial⟩ (Ent.refl _)
   intro x hx
   refine At.seq (At.cut (X := Nat) (fun _ => [(6, .int .i64 k), (5, .bool b), (3, aO b3), (2, .bool false), (0, aO w)]) (fun _ => row 3 1 (sX gy R.CF.length cy) R.CF.length (bp (FK.gX (R.CF.map (·.CE)) ys (k + 1))) :: row 46 7 (sX gf ns.length c) ns.length (aZ ns vs) :: blk b3 62 (bG 2 R.state (sX g2 R.CF.length c2) (sX g3 R.CF.length c3)).toArray :: q3 g2 R c2 (·.state) :: q3 g3 R c3 (·.CE) :: aW h d f :: cD f e j :: ap e p S :: au j d FK.J0 :: ak d (FK.cw l 1) :: dj w h dl (sX gf ns.length c) 2 tv rv (sX gy R.CF.length cy) irun ist (.slice Ai is.length ci) jv :: row 3 1 (.slice Ai is.length ci) is.length (bp is) :: (bf vs ns ++ fr)) (fun _ => True) ?_ ?_)
   ·
    refine At.seq ?_
    by_cases H5 : x = 5
    ·
     refine At.region (L.mv Z Z (L.pure Z (aH (r := true) Z Z (decide_eq_true H5)) (L.mv Z Z (L.off Z Z Z Z Z Z (L.off Z Z Z Z Z Z (L.pure Z (aq Z Z Z) (L.mv Z Z (L.off Z Z Z Z Z Z (L.off Z Z Z Z Z Z (L.pure Z (aq Z Z Z) (L.mv Z Z (lT Z Z Z (ab (off := 2) Z Z) (lA Z Z Z (aa Z Z) (ag Z) (lT Z Z Z (ae Z) (lT Z Z Z (aT (z := 1) Z Z Z Z hlt) (lA Z Z Z (aa (v := .int .i64 s.state) Z Z) (bJ (.tail (.tail (.tail (.head)))) (er hs)) (lT Z Z Z (ae Z) (lT Z Z Z (bX (r := false) Z Z (by rw [hx (.inl H5)]; simp)) (L.pure Z (aq Z Z Z) ?_)))))))))))))))))))
     exact L.nil (At.then (aj Z (At.skip (bb 0 trivial ⟨rfl, rfl, rfl, rfl, rfl, trivial⟩ (Ent.refl _)))))
    ·
     by_cases H6 : x = 6
     ·
      refine At.region (L.mv Z Z (L.pure Z (aH (r := false) Z Z (decide_eq_false H5)) (L.mv Z Z (lT Z Z Z (ae Z) (lT Z Z Z (aH (r := true) Z Z (decide_eq_true H6)) (L.pure Z (aq Z Z Z) (L.mv Z Z (L.off Z Z Z Z Z Z (L.off Z Z Z Z Z Z (L.pure Z (aq Z Z Z) (L.mv Z Z (lT Z Z Z (ab (off := 2) Z Z) (lA Z Z Z (aa Z Z) (ag Z) (lT Z Z Z (ae Z) (lT Z Z Z (aT (z := 1) Z Z Z Z hlt) (lA Z Z Z (aa (v := .int .i64 s.state) Z Z) (bJ (.tail (.tail (.tail (.head)))) (er hs)) (lT Z Z Z (ae Z) (lT Z Z Z (bX (r := false) Z Z (by rw [hx (.inr (.inl H6))]; simp)) (L.pure Z (aq Z Z Z) ?_)))))))))))))))))))
      exact L.nil (At.then (aj Z (At.skip (bb 0 trivial ⟨rfl, rfl, rfl, rfl, rfl, trivial⟩ (Ent.refl _)))))
     ·
      by_cases H7 : x = 7
      ·
       refine At.region (L.mv Z Z (L.pure Z (aH (r := false) Z Z (decide_eq_false H5)) (L.mv Z Z (lT Z Z Z (ae Z) (lT Z Z Z (aH (r := false) Z Z (decide_eq_false H6)) (L.pure Z (aq Z Z Z) (L.mv Z Z (lT Z Z Z (ae Z) (lT Z Z Z (aH (r := true) Z Z (decide_eq_true H7)) (L.pure Z (aq Z Z Z) (L.mv Z Z (lT Z Z Z (ab (off := 2) Z Z) (lA Z Z Z (aa Z Z) (ag Z) (lT Z Z Z (ae Z) (lT Z Z Z (aT (z := 1) Z Z Z Z hlt) (lA Z Z Z (aa (v := .int .i64 s.state) Z Z) (bJ (.tail (.tail (.tail (.head)))) (er hs)) (lT Z Z Z (ae Z) (lT Z Z Z (bX (r := false) Z Z (by rw [hx (.inr (.inr H7))]; simp)) (L.pure Z (aq Z Z Z) ?_)))))))))))))))))))
       exact L.nil (At.then (aj Z (At.skip (bb 0 trivial ⟨rfl, rfl, rfl, rfl, rfl, trivial⟩ (Ent.refl _)))))
      ·
       refine At.region (L.mv Z Z (L.pure Z (aH (r := false) Z Z (decide_eq_false H5)) (L.mv Z Z (lT Z Z Z (ae Z) (lT Z Z Z (aH (r := false) Z Z (decide_eq_false H6)) (L.pure Z (aq Z Z Z) (L.mv Z Z (lT Z Z Z (ae Z) (lT Z Z Z (aH (r := false) Z Z (decide_eq_false H7)) (L.pure Z (aq Z Z Z) (L.mv Z Z (L.off Z Z Z Z Z Z (L.off Z Z Z Z Z Z (L.off Z Z Z Z Z Z (L.off Z Z Z Z Z Z (L.off Z Z Z Z Z Z (L.off Z Z Z Z Z Z (L.off Z Z Z Z Z Z (L.pure Z (aq Z Z Z) ?_)))))))))))))))))))
       exact L.nil (At.then (aj Z (At.skip (bb 0 trivial ⟨rfl, rfl, rfl, rfl, rfl, trivial⟩ (Ent.refl _)))))
   rintro - -
   refine At.seq (At.cut (X := Nat) (fun _ => [(6, .int .i64 k), (5, .bool b), (3, aO b3), (2, .bool false), (0, aO w)]) (fun _ => row 3 1 (sX gy R.CF.length cy) R.CF.length (bp (FK.gX (R.CF.map (·.CE)) ys (k + 1))) :: row 46 7 (sX gf ns.length c) ns.length (aZ ns vs) :: blk b3 62 (bG 2 R.state (sX g2 R.CF.length c2) (sX g3 R.CF.length c3)).toArray :: q3 g2 R c2 (·.state) :: q3 g3 R c3 (·.CE) :: aW h d f :: cD f e j :: ap e p S :: au j d FK.J0 :: ak d (FK.cw l 1) :: dj w h dl (sX gf ns.length c) 2 tv rv (sX gy R.CF.length cy) irun ist (.slice Ai is.length ci) jv :: row 3 1 (.slice Ai is.length ci) is.length (bp is) :: (bf vs ns ++ fr)) (fun _ => True) ?_ ?_)
   ·
    refine At.seq ?_
    by_cases HD : s.state = 6
    ·
     refine Dr.start Z (dP 0 Z Z (ab (off := 2) Z Z) (dL 1 Z Z (aa Z Z) (ag Z) (dP 2 Z Z (ae Z) (dP 3 Z Z (aT (z := 1) Z Z Z Z hlt) (dL 4 Z Z (aa (v := .int .i64 s.state) Z Z) (bJ (.tail (.tail (.tail (.head)))) (er hs)) (dP 5 Z Z (aH (r := true) Z Z (decide_eq_true HD)) (dP 6 Z Z (ae Z) (dG 7 Z Z Z Z (ab (off := 3) Z Z) (dH 8 Z Z Z Z (aa Z Z) (ag Z) (dG 9 Z Z Z Z (ae Z) (dG 10 Z Z Z Z (aT (z := 1) Z Z Z Z hlt) (dH 11 Z Z Z Z (aa (v := .int .i64 s.CE) Z Z) (bJ (.tail (.tail (.tail (.tail (.head))))) (kG hs)) (dG 12 Z Z Z Z (ae Z) (dG 13 Z Z Z Z (am Z) (dG 14 Z Z Z Z (ab (off := 1) Z Z) (dG 15 Z Z Z Z (ab (off := 1) Z Z) (dH 16 Z Z Z Z (aa Z Z) (ag Z) (dG 17 Z Z Z Z (ae Z) (dG 18 Z Z Z Z (aT (z := 7) Z Z Z Z hln) ?_)))))))))))))))))))
     exact dG 19 Z Z Z Z (ab (off := 0) Z Z) (dH 20 Z Z Z Z (aa (v := .int .i64 nd.CJ) Z Z) (bJ (.tail (.head)) (m9 0 hvs cN hu (by omega))) (dG 21 Z Z Z Z (bX (r := false) Z Z (by rw [hsp.dead HD]; simp)) (dP 22 Z Z (aq Z Z Z) (dE (At.then (aj Z (At.skip (bb 0 trivial ⟨rfl, rfl, rfl, rfl, rfl, trivial⟩ (Ent.refl _)))))))))
    ·
     refine Dr.start Z (dP 0 Z Z (ab (off := 2) Z Z) (dL 1 Z Z (aa Z Z) (ag Z) (dP 2 Z Z (ae Z) (dP 3 Z Z (aT (z := 1) Z Z Z Z hlt) (dL 4 Z Z (aa (v := .int .i64 s.state) Z Z) (bJ (.tail (.tail (.tail (.head)))) (er hs)) (dP 5 Z Z (aH (r := false) Z Z (decide_eq_false HD)) (dP 6 Z Z (ae Z) (dS 7 Z Z Z Z Z Z Z (dS 8 Z Z Z Z Z Z Z (dS 9 Z Z Z Z Z Z Z (dS 10 Z Z Z Z Z Z Z (dS 11 Z Z Z Z Z Z Z (dS 12 Z Z Z Z Z Z Z (dS 13 Z Z Z Z Z Z Z (dS 14 Z Z Z Z Z Z Z (dS 15 Z Z Z Z Z Z Z (dS 16 Z Z Z Z Z Z Z (dS 17 Z Z Z Z Z Z Z (dS 18 Z Z Z Z Z Z Z ?_)))))))))))))))))))
     exact dS 19 Z Z Z Z Z Z Z (dS 20 Z Z Z Z Z Z Z (dS 21 Z Z Z Z Z Z Z (dP 22 Z Z (aq Z Z Z) (dE (At.then (aj Z (At.skip (bb 0 trivial ⟨rfl, rfl, rfl, rfl, rfl, trivial⟩ (Ent.refl _)))))))))
   rintro - -
   refine At.seq (At.cut (X := Bool) (fun x => [(5, .bool x), (6, .int .i64 k), (3, aO b3), (2, .bool false), (0, aO w)]) (fun _ => row 3 1 (sX gy R.CF.length cy) R.CF.length (bp (FK.gX (R.CF.map (·.CE)) ys (k + 1))) :: row 46 7 (sX gf ns.length c) ns.length (aZ ns vs) :: blk b3 62 (bG 2 R.state (sX g2 R.CF.length c2) (sX g3 R.CF.length c3)).toArray :: q3 g2 R c2 (·.state) :: q3 g3 R c3 (·.CE) :: aW h d f :: cD f e j :: ap e p S :: au j d FK.J0 :: ak d (FK.cw l 1) :: dj w h dl (sX gf ns.length c) 2 tv rv (sX gy R.CF.length cy) irun ist (.slice Ai is.length ci) jv :: row 3 1 (.slice Ai is.length ci) is.length (bp is) :: (bf vs ns ++ fr)) (fun x => (x = true ↔ ∀ (j : Nat) (s : FK.Sp), j < k + 1 → R.CF[j]? = some s → s.state = 5)) ?_ ?_)
   ·
    by_cases HB : b = true
    ·
     subst HB
     refine At.region (L.mv Z Z (L.mv Z Z (lT Z Z Z (ab (off := 2) Z Z) (lA Z Z Z (aa Z Z) (ag Z) (lT Z Z Z (ae Z) (lT Z Z Z (aT (z := 1) Z Z Z Z hlt) (lA Z Z Z (aa (v := .int .i64 s.state) Z Z) (bJ (.tail (.tail (.tail (.head)))) (er hs)) (lT Z Z Z (aH (r := decide (s.state = 5)) Z Z Z) (L.pure Z (aq Z Z Z) (L.as Z Z (L.nil ?_)))))))))))
     refine bb (decide (s.state = 5)) ?_ ⟨rfl, rfl, rfl, rfl, rfl, trivial⟩ (Ent.refl _)
     rw [decide_eq_true_iff]
     constructor
     · intro h5 j t hj ht
       by_cases e : j = k
       · subst e
         rw [hs] at ht
         injection ht with ht
         subst ht
         exact h5
       · exact hb.1 Z j t (by omega) ht
     · intro hall
       exact hall k s (by omega) hs
    ·
     obtain rfl : b = false := by cases b with
      | true => exact absurd rfl HB
      | false => rfl
     refine At.region (L.mv Z Z (L.mv Z Z (L.off Z Z Z Z Z Z (L.off Z Z Z Z Z Z (L.off Z Z Z Z Z Z (L.off Z Z Z Z Z Z (L.off Z Z Z Z Z Z (L.off Z Z Z Z Z Z (L.pure Z (aq Z Z Z) (L.as Z Z (L.nil ?_)))))))))))
     refine bb false ?_ ⟨rfl, rfl, rfl, rfl, rfl, trivial⟩ (Ent.refl _)
     constructor
     · intro h; cases h
     · intro hall
       exact absurd (hb.2 fun j t hj ht => hall j t (by omega) ht) (by simp)
   intro b2 hb2
   refine At.seq (At.region (L.as Z Z (L.nil (At.then (At.seq (At.seq ?_))))))
   obtain ⟨r6, hs6⟩ := kU (sc hu cN)
   replace hs6 := hs6.left fr
   refine aC (.tail (.tail (.tail (.tail (.tail (.tail (.tail (.tail (.tail (.tail (.tail (.tail hs6)))))))))))) ?_
   rintro A6 c6 rfl hn6 hf6 h61 h62 -
   have h6c : c6 ≤ 9223372036854775807 := by unfold maxLen at h62; omega
   have hedge := (hfit.CG k nd hln cN).2
   have haft : FK.dg R.fl.CG k = nd.after.map Int.toNat := FK.ql hndF
   refine At.region (L.as Z Z (L.nil (At.then (At.block ?_))))
   refine bk (X := Nat × Bool) (fun x => [(9, .int .i64 x.1), (8, .bool x.2), (5, .bool b2), (6, .int .i64 k), (3, aO b3), (2, .bool false), (0, aO w)]) (fun _ => row 3 1 (sX gy R.CF.length cy) R.CF.length (bp (FK.gX (R.CF.map (·.CE)) ys (k + 1))) :: row 46 7 (sX gf ns.length c) ns.length (aZ ns vs) :: blk b3 62 (bG 2 R.state (sX g2 R.CF.length c2) (sX g3 R.CF.length c3)).toArray :: q3 g2 R c2 (·.state) :: q3 g3 R c3 (·.CE) :: aW h d f :: cD f e j :: ap e p S :: au j d FK.J0 :: ak d (FK.cw l 1) :: dj w h dl (sX gf ns.length c) 2 tv rv (sX gy R.CF.length cy) irun ist (.slice Ai is.length ci) jv :: row 3 1 (.slice Ai is.length ci) is.length (bp is) :: (bf vs ns ++ fr)) (fun x => x.1 ≤ nd.after.length ∧ (x.2 = true ↔ ∀ y ∈ nd.after.take x.1, FK.bS R.CF y.toNat 5 = true)) (fun x => nd.after.length - x.1) (0, true) ⟨Nat.zero_le _, by simp⟩ ⟨rfl, rfl, rfl, rfl, rfl, rfl, rfl, trivial⟩ (Ent.refl _) ?_
   rintro ⟨jj, up⟩ ⟨hj, hup⟩
   simp only at hj hup
   refine At.ent (l' := row 3 1 (sX gy R.CF.length cy) R.CF.length (bp (FK.gX (R.CF.map (·.CE)) ys (k + 1))) :: row 46 7 (sX gf ns.length c) ns.length (aZ ns vs) :: blk b3 62 (bG 2 R.state (sX g2 R.CF.length c2) (sX g3 R.CF.length c3)).toArray :: q3 g2 R c2 (·.state) :: q3 g3 R c3 (·.CE) :: aW h d f :: cD f e j :: ap e p S :: au j d FK.J0 :: ak d (FK.cw l 1) :: dj w h dl (sX gf ns.length c) 2 tv rv (sX gy R.CF.length cy) irun ist (.slice Ai is.length ci) jv :: row 3 1 (.slice Ai is.length ci) is.length (bp is) :: (bf vs ns ++ fr)) (Ent.refl _) ?_
   refine At.seq (At.seq (At.region (L.mv Z Z (L.mv Z Z (aR Z Z (aI 1 Z Z Z (aI 1 Z Z Z (bd Z Z Z Z (L.mv Z Z (L.pure Z (aT (z := 7) Z Z Z Z hln) (aI 6 Z Z Z (L.val Z (aa (v := .slice A6 nd.after.length c6) Z Z) (bJ (.tail (.head)) (m9 6 hvs cN hu (by omega))) (L.pure Z (aM Z Z) (L.pure Z (bl Z Z Z) (L.nil (At.then ?_))))))))))))))))
   refine aE Z (fun c161 => ?_) (fun c161 => ?_)
   ·
    have hjl : jj < nd.after.length := by have : (jj : Int) < (nd.after.length : Int) := c161; omega
    obtain ⟨g6, rfl⟩ : ∃ g, A6 = some ⟨g, 0, none⟩ := by
     cases A6 with
     | none => have := (hn6 rfl).1; omega
     | some ad => obtain ⟨g, rfl⟩ := hf6 ad rfl; exact ⟨g, rfl⟩
    obtain ⟨z, hz⟩ : ∃ z, nd.after[jj]? = some z := ⟨nd.after[jj], List.getElem?_eq_getElem hjl⟩
    have hzb := hedge.bounds z (List.mem_of_getElem? hz)
    simp only at hzb
    obtain ⟨zn, rfl⟩ : ∃ n : Nat, z = n := ⟨z.toNat, by omega⟩
    have hzl : zn < R.CF.length := by omega
    obtain ⟨sz, hsz⟩ : ∃ s, R.CF[zn]? = some s := ⟨R.CF[zn], List.getElem?_eq_getElem hzl⟩
    refine At.skip (At.then ?_)
    refine At.seq (At.cut (X := Bool) (fun x => [(8, .bool x), (9, .int .i64 jj), (5, .bool b2), (6, .int .i64 k), (3, aO b3), (2, .bool false), (0, aO w)]) (fun _ => row 3 1 (sX gy R.CF.length cy) R.CF.length (bp (FK.gX (R.CF.map (·.CE)) ys (k + 1))) :: row 46 7 (sX gf ns.length c) ns.length (aZ ns vs) :: blk b3 62 (bG 2 R.state (sX g2 R.CF.length c2) (sX g3 R.CF.length c3)).toArray :: q3 g2 R c2 (·.state) :: q3 g3 R c3 (·.CE) :: aW h d f :: cD f e j :: ap e p S :: au j d FK.J0 :: ak d (FK.cw l 1) :: dj w h dl (sX gf ns.length c) 2 tv rv (sX gy R.CF.length cy) irun ist (.slice Ai is.length ci) jv :: row 3 1 (.slice Ai is.length ci) is.length (bp is) :: (bf vs ns ++ fr)) (fun x => (x = true ↔ ∀ y ∈ nd.after.take (jj + 1), FK.bS R.CF y.toNat 5 = true)) ?_ ?_)
    ·
     refine At.block ?_
     by_cases HU : up = true
     ·
      subst HU
      refine Dr.start Z (dP 0 Z Z (ae Z) (dP 1 Z Z (ae Z) (dG 2 Z Z Z Z (ab (off := 2) Z Z) (dH 3 Z Z Z Z (aa Z Z) (ag Z) (dG 4 Z Z Z Z (ae Z) (dG 5 Z Z Z Z (am Z) (dG 6 Z Z Z Z (ab (off := 1) Z Z) (dG 7 Z Z Z Z (ab (off := 1) Z Z) (dH 8 Z Z Z Z (aa Z Z) (ag Z) (dG 9 Z Z Z Z (ae Z) (dG 10 Z Z Z Z (aT (z := 7) Z Z Z Z hln) (dG 11 Z Z Z Z (ab (off := 6) Z Z) (dH 12 Z Z Z Z (aa (v := sX g6 nd.after.length c6) Z Z) (bJ (.tail (.head)) (m9 6 hvs cN hu (by omega))) (dG 13 Z Z Z Z (ae Z) (dG 14 Z Z Z Z (aT (z := 1) Z Z Z Z hjl) (dH 15 Z Z Z Z (aa (v := .int .i64 zn) Z Z) (bJ (.tail (.tail (.tail (.tail (.tail (.tail (.tail (.tail (.tail (.tail (.tail (.tail hs6)))))))))))) (qC hz)) (dG 16 Z Z Z Z (aT (z := 1) Z Z Z Z hzl) (dH 17 Z Z Z Z (aa (v := .int .i64 sz.state) Z Z) (bJ (.tail (.tail (.tail (.head)))) (er hsz)) (dG 18 Z Z Z Z (aH (r := decide (sz.state = 5)) Z Z Z) ?_)))))))))))))))))))
      refine dP 19 Z Z (aq Z Z Z) (dP 20 Z Z (ax Z) (dE (an ?_)))
      refine bb (decide (sz.state = 5)) ?_ ⟨rfl, rfl, rfl, rfl, rfl, rfl, rfl, trivial⟩ (Ent.refl _)
      rw [decide_eq_true_iff, gO hz]
      constructor
      · intro h5 q hq
        rcases List.mem_append.1 hq with hq | hq
        · exact hup.1 Z q hq
        · rw [List.mem_singleton] at hq
          subst hq
          exact FK.isAt_iff.2 ⟨sz, by simpa using hsz, h5⟩
      · intro hall
        have := hall (zn : Int) (by simp)
        rw [Int.toNat_natCast, FK.dw hsz] at this
        simpa using this
     ·
      obtain rfl : up = false := by cases up with
       | true => exact absurd rfl HU
       | false => rfl
      refine Dr.start Z (dP 0 Z Z (ae Z) (dP 1 Z Z (ae Z) (dS 2 Z Z Z Z Z Z Z (dS 3 Z Z Z Z Z Z Z (dS 4 Z Z Z Z Z Z Z (dS 5 Z Z Z Z Z Z Z (dS 6 Z Z Z Z Z Z Z (dS 7 Z Z Z Z Z Z Z (dS 8 Z Z Z Z Z Z Z (dS 9 Z Z Z Z Z Z Z (dS 10 Z Z Z Z Z Z Z (dS 11 Z Z Z Z Z Z Z (dS 12 Z Z Z Z Z Z Z (dS 13 Z Z Z Z Z Z Z (dS 14 Z Z Z Z Z Z Z (dS 15 Z Z Z Z Z Z Z (dS 16 Z Z Z Z Z Z Z (dS 17 Z Z Z Z Z Z Z (dS 18 Z Z Z Z Z Z Z ?_)))))))))))))))))))
      refine dP 19 Z Z (aq Z Z Z) (dP 20 Z Z (ax Z) (dE (an ?_)))
      refine bb false ?_ ⟨rfl, rfl, rfl, rfl, rfl, rfl, rfl, trivial⟩ (Ent.refl _)
      rw [gO hz]
      constructor
      · intro h; cases h
      · intro hall
        exact absurd (hup.2 fun q hq => hall q (List.mem_append_left _ hq)) (by simp)
    intro up2 hup2
    refine At.region (L.mv Z Z (L.pure Z (aS (r := ((jj + 1 : Nat) : Int)) Z Z (by rw [dd (by omega)]; omega)) (L.as Z Z (L.nil ?_))))
    exact At.round (jj + 1, up2) ⟨hjl, hup2⟩ (by show nd.after.length - (jj + 1) < nd.after.length - jj; omega) ⟨rfl, rfl, rfl, rfl, rfl, rfl, rfl, trivial⟩ (Ent.refl _)
   ·
    have hjl : jj = nd.after.length := by
     have : ¬ (jj : Int) < (nd.after.length : Int) := c161
     omega
    rw [hjl, List.take_length] at hup
    have hupA : up = true ↔ FK.gV R k := by
     rw [hup]
     unfold FK.gV
     rw [haft]
     simp
    have hu1 := fun h => (hL.hon.h0.up k s hs h)
    refine At.exit (az (ay (ar (At.then ?_))))
    refine At.seq (At.cut (X := Nat) (fun _ => [(8, .bool up), (5, .bool b2), (6, .int .i64 k), (3, aO b3), (2, .bool false), (0, aO w)]) (fun _ => row 3 1 (sX gy R.CF.length cy) R.CF.length (bp (FK.gX (R.CF.map (·.CE)) ys (k + 1))) :: row 46 7 (sX gf ns.length c) ns.length (aZ ns vs) :: blk b3 62 (bG 2 R.state (sX g2 R.CF.length c2) (sX g3 R.CF.length c3)).toArray :: q3 g2 R c2 (·.state) :: q3 g3 R c3 (·.CE) :: aW h d f :: cD f e j :: ap e p S :: au j d FK.J0 :: ak d (FK.cw l 1) :: dj w h dl (sX gf ns.length c) 2 tv rv (sX gy R.CF.length cy) irun ist (.slice Ai is.length ci) jv :: row 3 1 (.slice Ai is.length ci) is.length (bp is) :: (bf vs ns ++ fr)) (fun _ => True) ?_ ?_)
    ·
     refine At.seq ?_
     by_cases HU : up = true
     ·
      subst HU
      refine At.region (L.mv Z Z (L.pure Z (cg Z Z) (L.mv Z Z (L.off Z Z Z Z Z Z (L.off Z Z Z Z Z Z (L.off Z Z Z Z Z Z (L.off Z Z Z Z Z Z (L.off Z Z Z Z Z Z (L.off Z Z Z Z Z Z (L.off Z Z Z Z Z Z (L.skip Z Z Z Z Z Z (L.skip Z Z Z Z Z Z (L.skip Z Z Z Z Z Z (L.skip Z Z Z Z Z Z (L.skip Z Z Z Z Z Z (L.skip Z Z Z Z Z Z (L.off Z Z Z Z Z Z (L.off Z Z Z Z Z Z (L.skip Z Z Z Z Z Z ?_)))))))))))))))))))
      refine L.skip Z Z Z Z Z Z (L.skip Z Z Z Z Z Z (L.skip Z Z Z Z Z Z (L.skip Z Z Z Z Z Z (L.skip Z Z Z Z Z Z (L.off Z Z Z Z Z Z (L.off Z Z Z Z Z Z (L.skip Z Z Z Z Z Z (L.skip Z Z Z Z Z Z (L.skip Z Z Z Z Z Z (L.skip Z Z Z Z Z Z (L.skip Z Z Z Z Z Z (L.skip Z Z Z Z Z Z (L.off Z Z Z Z Z Z (L.off Z Z Z Z Z Z (L.skip Z Z Z Z Z Z (L.skip Z Z Z Z Z Z (L.skip Z Z Z Z Z Z (L.skip Z Z Z Z Z Z (L.skip Z Z Z Z Z Z ?_)))))))))))))))))))
      exact L.skip Z Z Z Z Z Z (L.off Z Z Z Z Z Z (L.pure Z (aq Z Z Z) (L.nil (At.then (aj Z (At.skip (bb 0 trivial ⟨rfl, rfl, rfl, rfl, rfl, rfl, trivial⟩ (Ent.refl _))))))))
     ·
      obtain rfl : up = false := by cases up with
       | true => exact absurd rfl HU
       | false => rfl
      have hno : ¬ (2 ≤ s.state ∧ s.state ≤ 6) := fun h => by have := hupA.2 (hu1 h); cases this
      refine At.region (L.mv Z Z (L.pure Z (cg Z Z) (L.mv Z Z (lT Z Z Z (ab (off := 2) Z Z) (lA Z Z Z (aa Z Z) (ag Z) (lT Z Z Z (ae Z) (lT Z Z Z (aT (z := 1) Z Z Z Z hlt) (lA Z Z Z (aa (v := .int .i64 s.state) Z Z) (bJ (.tail (.tail (.tail (.head)))) (er hs)) (lT Z Z Z (aH (r := false) Z Z (decide_eq_false (by omega))) (lT Z Z Z (ae Z) (lT Z Z Z (ab (off := 2) Z Z) (lA Z Z Z (aa Z Z) (ag Z) (lT Z Z Z (ae Z) (lT Z Z Z (aT (z := 1) Z Z Z Z hlt) (lA Z Z Z (aa (v := .int .i64 s.state) Z Z) (bJ (.tail (.tail (.tail (.head)))) (er hs)) (lT Z Z Z (aH (r := false) Z Z (decide_eq_false (by omega))) (lT Z Z Z (aq Z Z Z) (lT Z Z Z (ae Z) (lT Z Z Z (ab (off := 2) Z Z) ?_)))))))))))))))))))
      refine lA Z Z Z (aa Z Z) (ag Z) (lT Z Z Z (ae Z) (lT Z Z Z (aT (z := 1) Z Z Z Z hlt) (lA Z Z Z (aa (v := .int .i64 s.state) Z Z) (bJ (.tail (.tail (.tail (.head)))) (er hs)) (lT Z Z Z (aH (r := false) Z Z (decide_eq_false (by omega))) (lT Z Z Z (aq Z Z Z) (lT Z Z Z (ae Z) (lT Z Z Z (ab (off := 2) Z Z) (lA Z Z Z (aa Z Z) (ag Z) (lT Z Z Z (ae Z) (lT Z Z Z (aT (z := 1) Z Z Z Z hlt) (lA Z Z Z (aa (v := .int .i64 s.state) Z Z) (bJ (.tail (.tail (.tail (.head)))) (er hs)) (lT Z Z Z (aH (r := false) Z Z (decide_eq_false (by omega))) (lT Z Z Z (aq Z Z Z) (lT Z Z Z (ae Z) (lT Z Z Z (ab (off := 2) Z Z) (lA Z Z Z (aa Z Z) (ag Z) (lT Z Z Z (ae Z) (lT Z Z Z (aT (z := 1) Z Z Z Z hlt) (lA Z Z Z (aa (v := .int .i64 s.state) Z Z) (bJ (.tail (.tail (.tail (.head)))) (er hs)) ?_)))))))))))))))))))
      exact lT Z Z Z (aH (r := false) Z Z (decide_eq_false (by omega))) (lT Z Z Z (aq Z Z Z) (L.pure Z (aq Z Z Z) (L.nil (At.then (aj Z (At.skip (bb 0 trivial ⟨rfl, rfl, rfl, rfl, rfl, rfl, trivial⟩ (Ent.refl _))))))))
    rintro - -
    refine At.seq ?_
    by_cases HU : up = true
    ·
     subst HU
     by_cases HR : R.state = 1
     ·
      refine At.region (L.mv Z Z (L.mv Z Z (lT Z Z Z (ab (off := 1) Z Z) (lA Z Z Z (aa Z Z) (ag Z) (lT Z Z Z (aH (r := true) Z Z (decide_eq_true HR)) (L.pure Z (aq Z Z Z) (L.mv Z Z (lT Z Z Z (ab (off := 2) Z Z) (lA Z Z Z (aa Z Z) (ag Z) (lT Z Z Z (ae Z) (lT Z Z Z (aT (z := 1) Z Z Z Z hlt) (lA Z Z Z (aa (v := .int .i64 s.state) Z Z) (bJ (.tail (.tail (.tail (.head)))) (er hs)) ?_))))))))))))
      refine lT Z Z Z (aH (r := false) Z Z (decide_eq_false fun h => hL.hon.h0.wt HR k s hs h (hupA.1 Z))) ?_
      exact L.pure Z (aq Z Z Z) (L.nil (At.then (aj Z (At.skip (an (bb b2 hb2 ⟨rfl, rfl, rfl, rfl, rfl, trivial⟩ (Ent.refl _)))))))
     ·
      exact At.region (L.mv Z Z (L.mv Z Z (lT Z Z Z (ab (off := 1) Z Z) (lA Z Z Z (aa Z Z) (ag Z) (lT Z Z Z (aH (r := false) Z Z (decide_eq_false HR)) (L.pure Z (aq Z Z Z) (L.mv Z Z (L.off Z Z Z Z Z Z (L.off Z Z Z Z Z Z (L.off Z Z Z Z Z Z (L.off Z Z Z Z Z Z (L.off Z Z Z Z Z Z (L.off Z Z Z Z Z Z (L.pure Z (aq Z Z Z) (L.nil (At.then (aj Z (At.skip (an (bb b2 hb2 ⟨rfl, rfl, rfl, rfl, rfl, trivial⟩ (Ent.refl _)))))))))))))))))))))
    ·
     obtain rfl : up = false := by cases up with
      | true => exact absurd rfl HU
      | false => rfl
     exact At.region (L.mv Z Z (L.mv Z Z (L.off Z Z Z Z Z Z (L.off Z Z Z Z Z Z (L.off Z Z Z Z Z Z (L.pure Z (aq Z Z Z) (L.mv Z Z (L.off Z Z Z Z Z Z (L.off Z Z Z Z Z Z (L.off Z Z Z Z Z Z (L.off Z Z Z Z Z Z (L.off Z Z Z Z Z Z (L.off Z Z Z Z Z Z (L.pure Z (aq Z Z Z) (L.nil (At.then (aj Z (At.skip (an (bb b2 hb2 ⟨rfl, rfl, rfl, rfl, rfl, trivial⟩ (Ent.refl _)))))))))))))))))))))
  intro b2 hb2
  refine At.region (L.mv Z Z (L.pure Z (aS (r := ((k + 1 : Nat) : Int)) Z Z (by rw [dd (by omega)]; omega)) (L.as Z Z (L.nil ?_))))
  exact At.round (k + 1, b2) ⟨hlt, hb2⟩ (by show R.CF.length - (k + 1) < R.CF.length - k; omega) ⟨rfl, rfl, rfl, rfl, rfl, trivial⟩ (Ent.refl _)
 ·
  have hkl : k = R.CF.length := by
   have : ¬ (k : Int) < (R.CF.length : Int) := c40
   omega
  rw [hkl] at hb
  refine At.exit (az (ay (ar (At.then ?_))))
  refine At.seq (At.cut (X := Nat) (fun _ => [(6, .int .i64 k), (5, .bool b), (3, aO b3), (2, .bool false), (0, aO w)]) (fun _ => row 3 1 (sX gy R.CF.length cy) R.CF.length (bp (FK.gX (R.CF.map (·.CE)) ys k)) :: row 46 7 (sX gf ns.length c) ns.length (aZ ns vs) :: blk b3 62 (bG 2 R.state (sX g2 R.CF.length c2) (sX g3 R.CF.length c3)).toArray :: q3 g2 R c2 (·.state) :: q3 g3 R c3 (·.CE) :: aW h d f :: cD f e j :: ap e p S :: au j d FK.J0 :: ak d (FK.cw l 1) :: dj w h dl (sX gf ns.length c) 2 tv rv (sX gy R.CF.length cy) irun ist (.slice Ai is.length ci) jv :: row 3 1 (.slice Ai is.length ci) is.length (bp is) :: (bf vs ns ++ fr)) (fun _ => True) ?_ ?_)
  ·
   refine At.seq ?_
   by_cases HI : is = []
   ·
    subst HI
    refine Dr.start Z (dP 0 Z Z (ae Z) (dP 1 Z Z (am Z) (dP 2 Z Z (ab (off := 7) Z Z) (dP 3 Z Z (ab (off := 2) Z Z) (dL 4 Z Z (aa Z Z) (ag Z) (dP 5 Z Z (aM Z Z) (dP 6 Z Z (cG (r := false) Z Z Z) (dP 7 Z Z (ae Z) (dS 8 Z Z Z Z Z Z Z (dS 9 Z Z Z Z Z Z Z (dS 10 Z Z Z Z Z Z Z (dS 11 Z Z Z Z Z Z Z (dS 12 Z Z Z Z Z Z Z (dS 13 Z Z Z Z Z Z Z (dP 14 Z Z (aq Z Z Z) (dP 15 Z Z (ae Z) (dS 16 Z Z Z Z Z Z Z (dS 17 Z Z Z Z Z Z Z (dS 18 Z Z Z Z Z Z Z ?_)))))))))))))))))))
    exact dS 19 Z Z Z Z Z Z Z (dS 20 Z Z Z Z Z Z Z (dS 21 Z Z Z Z Z Z Z (dS 22 Z Z Z Z Z Z Z (dS 23 Z Z Z Z Z Z Z (dP 24 Z Z (aq Z Z Z) (dE (At.then (aj Z (At.skip (bb 0 trivial ⟨rfl, rfl, rfl, rfl, rfl, trivial⟩ (Ent.refl _)))))))))))
   ·
    obtain ⟨R0, hR0, hst0, hwt⟩ := hi.resolve_left HI
    have hpos : 0 < is.length := List.length_pos_iff.2 HI
    by_cases HS : ist = 1
    ·
     refine Dr.start Z (dP 0 Z Z (ae Z) (dP 1 Z Z (am Z) (dP 2 Z Z (ab (off := 7) Z Z) (dP 3 Z Z (ab (off := 2) Z Z) (dL 4 Z Z (aa Z Z) (ag Z) (dP 5 Z Z (aM Z Z) (dP 6 Z Z (cG (r := true) Z Z (decide_eq_true (by omega))) (dP 7 Z Z (ae Z) (dG 8 Z Z Z Z (ae Z) (dG 9 Z Z Z Z (am Z) (dG 10 Z Z Z Z (ab (off := 7) Z Z) (dG 11 Z Z Z Z (ab (off := 1) Z Z) (dH 12 Z Z Z Z (aa Z Z) (ag Z) (dG 13 Z Z Z Z (bX (r := false) Z Z (by rw [HS]; simp)) (dP 14 Z Z (aq Z Z Z) (dP 15 Z Z (ae Z) (dS 16 Z Z Z Z Z Z Z (dS 17 Z Z Z Z Z Z Z (dS 18 Z Z Z Z Z Z Z ?_)))))))))))))))))))
     exact dS 19 Z Z Z Z Z Z Z (dS 20 Z Z Z Z Z Z Z (dS 21 Z Z Z Z Z Z Z (dS 22 Z Z Z Z Z Z Z (dS 23 Z Z Z Z Z Z Z (dP 24 Z Z (aq Z Z Z) (dE (At.then (aj Z (At.skip (bb 0 trivial ⟨rfl, rfl, rfl, rfl, rfl, trivial⟩ (Ent.refl _)))))))))))
    ·
     refine Dr.start Z (dP 0 Z Z (ae Z) (dP 1 Z Z (am Z) (dP 2 Z Z (ab (off := 7) Z Z) (dP 3 Z Z (ab (off := 2) Z Z) (dL 4 Z Z (aa Z Z) (ag Z) (dP 5 Z Z (aM Z Z) (dP 6 Z Z (cG (r := true) Z Z (decide_eq_true (by omega))) (dP 7 Z Z (ae Z) (dG 8 Z Z Z Z (ae Z) (dG 9 Z Z Z Z (am Z) (dG 10 Z Z Z Z (ab (off := 7) Z Z) (dG 11 Z Z Z Z (ab (off := 1) Z Z) (dH 12 Z Z Z Z (aa Z Z) (ag Z) (dG 13 Z Z Z Z (bX (r := true) Z Z (by simpa using HS)) (dP 14 Z Z (aq Z Z Z) (dP 15 Z Z (ae Z) (dG 16 Z Z Z Z (ab (off := 1) Z Z) (dH 17 Z Z Z Z (aa Z Z) (ag Z) (dG 18 Z Z Z Z (ae Z) ?_)))))))))))))))))))
     refine dG 19 Z Z Z Z (am Z) (dG 20 Z Z Z Z (ab (off := 7) Z Z) (dG 21 Z Z Z Z (ab (off := 1) Z Z) (dH 22 Z Z Z Z (aa Z Z) (ag Z) ?_)))
     refine dG 23 Z Z Z Z (bX (r := false) Z Z (by rw [hst0, hwt.st (by rw [← hst0]; exact HS)]; simp)) ?_
     exact dP 24 Z Z (aq Z Z Z) (dE (At.then (aj Z (At.skip (bb 0 trivial ⟨rfl, rfl, rfl, rfl, rfl, trivial⟩ (Ent.refl _))))))
  rintro - -
  refine At.seq (At.region (L.mv Z Z (L.val Z (ao (vs := bG 2 R.state (sX g2 R.CF.length c2) (sX g3 R.CF.length c3)) Z Z Z Z) (aw Z) (aR Z Z (aI 7 Z Z Z ?_)))))
  refine L.op Z (aK Z (m := 4) (vs := bG 2 R.state (sX g2 R.CF.length c2) (sX g3 R.CF.length c3)) Z Z Z Z (by simp [Value.oneCell']) (by show 7 + 4 ≤ 11; omega) ?_)
  refine aD w (tF h dl (sX gf ns.length c) 2 tv rv (sX gy R.CF.length cy) 2 R.state (sX g2 R.CF.length c2) (sX g3 R.CF.length c3)).toArray Z (L.nil (At.then (At.seq ?_)))
  have hbe : b = decide (R.state = 2) := by
   rw [Bool.eq_iff_iff, decide_eq_true_iff, hb]
   constructor
   · intro hall
     refine Classical.byContradiction fun h2 => ?_
     by_cases h1 : R.state = 1
     · obtain ⟨k', s', hs', ho⟩ := hL.hon.go h1
       rw [FK.ls] at ho
       exact ho.1 (hall k' s' (List.getElem?_eq_some_iff.1 hs').1 hs')
     · obtain ⟨k', s', hs', ho⟩ := hL.hon.lost h1 h2
       exact ho (hall k' s' (List.getElem?_eq_some_iff.1 hs').1 hs')
   · intro h2 j' s' _ hs'
     exact hL.hon.all h2 j' s' hs'
  refine At.region (L.mv Z Z (aI 1 Z Z Z (bd Z Z Z Z (L.pure Z (aH (r := decide (R.state = 2)) Z Z Z) (L.pure Z (jf (r := true) Z Z Z (by rw [hbe]; simp)) (L.as Z Z (L.nil (At.then (At.ret ?_)))))))))
  refine At.ent (l' := aW h d f :: cD f e j :: ap e p S :: au j d FK.J0 :: ak d (FK.cw l 1) :: dj w h dl (sX gf ns.length c) 2 tv rv (sX gy R.CF.length cy) 2 R.state (sX g2 R.CF.length c2) (sX g3 R.CF.length c3) :: q3 gy R cy (·.CE) :: q3 g2 R c2 (·.state) :: q3 g3 R c3 (·.CE) :: row 46 7 (sX gf ns.length c) ns.length (aZ ns vs) :: (bf vs ns ++ fr)) (by rw [hkl, FK.zi htl (by omega)]; exact al) ?_
  refine At.ent (Ent.cons (Ent.cons (Ent.cons (Ent.cons (Ent.cons (Ent.cons (Ent.cons (Ent.cons (Ent.cons (nodesOwn.ent hvs)))))))))) ?_
  refine aA (fO h f e j d p S l ++ [dj w h dl (sX gf ns.length c) 2 tv rv (sX gy R.CF.length cy) 2 R.state (sX g2 R.CF.length c2) (sX g3 R.CF.length c3), q5 gy R cy (·.CE), q5 g2 R c2 (·.state), q5 g3 R c3 (·.CE), nodesOwn (sX gf ns.length c) ns]) Z Z ⟨rfl, _, _, _, rfl⟩ ?_
  show Ent _ (aW h d f :: cD f e j :: ap e p S :: au j d FK.J0 :: ak d (FK.cw l 1) :: dj w h dl (sX gf ns.length c) 2 tv rv (sX gy R.CF.length cy) 2 R.state (sX g2 R.CF.length c2) (sX g3 R.CF.length c3) :: row 3 1 _ (R.CF.map (·.CE)).length _ :: row 3 1 _ (R.CF.map (·.state)).length _ :: row 3 1 _ (R.CF.map (·.CE)).length _ :: nodesOwn (sX gf ns.length c) ns :: fr)
  rw [hstl, htrl]
  exact Ent.refl _
end
end Go.Proofs.YtmeegfamopaljaaGreatDoor
