/- The engine's fails, walked. -/
import Derived.Test.YtmeegfamopaljaaGreatDoorHnG
import Derived.Test.YtmeegfamopaljaaGreatDoorHnE
import Derived.Test.YtmeegfamopaljaaGreatDoorHnD
import Derived.Laws.BitsAllLaws
import Derived.ChangeKeysEq
import Derived.Lib.AppendZerosOnto
import Derived.WalkKit
import Derived.Test.YtmeegfamopaljaaGreatDoorHnF
import Derived.Laws.IdiomStrings
import Derived.Shelf.Strconv.Itoa3
import Derived.Shelf.Strconv.AtoiErr
import Derived.Test.YtmeegfamopaljaaGreatDoorChecked
namespace Go.Proofs.YtmeegfamopaljaaGreatDoor
open Go Go.RowKit Go.SL
variable {G : Env → Prop}
theorem aft_lt {fl : FK.Flow} (h : wd fl) : ∀ i, ∀ k ∈ FK.dg fl.CG i, k < fl.CG.length := fun i k hk => by
 unfold FK.dg at hk
 split at hk
 · rename_i n hn
   obtain ⟨x, hx, rfl⟩ := List.mem_map.1 hk
   obtain ⟨h0, h1⟩ := h n (List.mem_of_getElem? hn) x hx
   omega
 · cases hk
theorem og {R : FK.Rn} {k : Nat} {s : FK.Sp} {st : Int} {T : List Nat} : ((R.turned k s st).skips T).CF.length = R.CF.length := by
 unfold FK.Rn.skips
 rw [show ({ R.turned k s st with CF := T.foldl (FK.bY (R.turned k s st).fl.CG) (R.turned k s st).CF } : FK.Rn).CF = T.foldl (FK.bY (R.turned k s st).fl.CG) (R.turned k s st).CF from rfl, FK.ka]
 unfold FK.Rn.turned FK.Rn.setS
 simp
set_option maxRecDepth 10000 in
set_option maxHeartbeats 2000000 in
theorem uQ {e : Nat} {p : EA} {S : FK.En} {id k : Nat} {wh : Int} {R : FK.Rn} {s : FK.Sp} {nd : FK.Node} (hG : ∀ E w, G E → E.is w → Tab w) (hR : S.getR id = some R) (hs : R.CF[k]? = some s) (cN : R.fl.CG[k]? = some nd) (hlen : R.CF.length = R.fl.CG.length) (hn : R.fl.CG.length ≤ 12) (hfit : wd R.fl) (hsm : ∀ n ∈ R.fl.CG, (i64 n.CJ ∧ i64 n.close ∧ i64 n.beat ∧ i64 n.base ∧ i64 n.cap ∧ i64 n.CK) ∧ ∀ x ∈ n.after, i64 x)
 (hq : S.CH.length ≤ 300) (hl : S.tms.length ≤ 99997) (hends : S.ends < 9223372036854775807) (hnow : S.now ≤ 4611686018427387904) (hsets : S.sets + 1 < 9223372036854775807) (hseed : S.seed < 18446744073709551616) (h1 : 1 ≤ nd.base) (h2 : nd.base ≤ nd.cap) (h3 : nd.cap ≤ 1048576) (h4 : 0 ≤ nd.CK) (h5 : nd.CK ≤ 1048576) (hrest : 0 ≤ eY nd.base nd.cap nd.CK s.CE S.seed ∧ eY nd.base nd.cap nd.CK s.CE S.seed ≤ 4611686018427387904) :
 Does Tryz.prog G 234 [aO e, gE ⟨id, (k : Int), wh⟩].toArray [ap e p S] fun v m => v = .tuple #[] ∧ ((s.CE < nd.CJ ∧ m = [ap e p (S.rests id k R s (eY nd.base nd.cap nd.CK s.CE S.seed).toNat)]) ∨ (nd.CJ ≤ s.CE ∧ ∃ left T, FK.Ordering R.fl.CG left T ∧ (∀ i, left.testBit i = true → ∃ j ∈ FK.dg R.fl.CG i, left.testBit j = true) ∧ m = [ap e p (S.dies id k R s T)])) := by
 have hkn := (List.getElem?_eq_some_iff.1 cN).1
 have hRl := FK.f7 hR hs
 have hsl := FK.cv (R := R) (s' := { s with token := 0 }) hs
 refine Does.body Tryz.func234 Z Z fun E fr hE => ?_
 refine ai ?_
 refine eP (fun w hw => jR hR cN hw) fun hA => ?_
 obtain ⟨A, c, hu, -⟩ := hA
 refine At.seq (At.region (L.op Z (cb Z Z fun b3 => (L.nil (At.then (At.seq (Dr.start Z (dP 0 Z Z (ae Z) (dP 1 Z Z (am Z) (dP 2 Z Z (ab (off := 1) Z Z) ?_))))))))))
 refine dL 3 Z Z (aa Z Z) (aU fun _ _ _ => rfl) ?_
 refine dP 4 Z Z (ab (off := 0) Z Z) (dL 5 Z Z (aa Z Z) (ag Z) (dL 6 Z Z (eN (a := id) (v := aO (p.fb id)) Z dV Z Z (e8 hR)) dp (dR 7 Z Z (aN (z := .pointer none) Z Z fun b4 => ?_))))
 refine dK [true, true, true] (Kept.cons dp (Kept.cons (ag Z) (Kept.cons (aU fun _ _ _ => rfl) Kept.nil))) ?_
 refine dR 8 Z Z (bB Z Z Z Z Z (by show 0 < 1; omega) ?_)
 refine dK [false, false, false] Kept.nil (dE (At.then ?_))
 refine At.seq (At.cut (X := Nat) (fun b => [(0, aO e), (3, aO b3), (4, aO b4), (5, .pointer (some ⟨(p.ra id).gs, 0 + k * 3, none⟩)), (6, aO b)]) (fun b => ap e p (S.leave id k) :: blk b3 268 (fL ⟨id, (k : Int), wh⟩).toArray :: eX b4 (aO (p.fb id)) :: blk b 46 (av nd (.slice A nd.after.length c)).toArray :: fr) (fun _ => True) ?_ ?_)
 ·
  refine aD b4 #[aO (p.fb id)] rfl (Dr.start Z (dP 0 Z Z (ae Z) (dL 1 Z Z (ao (vs := fL ⟨id, (k : Int), wh⟩) Z Z Z Z) (aw Z) (dL 3 Z Z (aa Z Z) (ag Z) (dP 4 Z Z (am Z) (dP 5 Z Z (ab (off := 0) Z Z) (dP 6 Z Z (ab (off := 1) Z Z) (dL 7 Z Z (aa (v := (p.ra id).nv R) Z Z) (bQ hR Z) (dP 8 Z Z (ab (off := 1) Z Z) (dL 9 Z Z (aa Z Z) (ag Z) (dP 10 Z Z (aT (z := 7) Z Z Z Z hkn) (dL 11 Z Z (ao (vs := av nd (.slice A nd.after.length c)) Z Z Z Z) (dz hR cN hu) ?_))))))))))))
  refine gJ 2 12 Z Z Z Z (by kernel_rfl) (ah Z Z Z hE (jo (wh := wh) hR hs (by omega)) (Ent.trans (Ent.sel HasEng.sel) (Ent.refl _)) ?_) (aN (z := .agg #[.int .i64 0, .int .i64 0, .int .i64 0, .int .i64 0, .int .i64 0, .int .i64 0, .slice none 0 0]) Z Z fun b6 => ?_)
  ·
   rintro v m ⟨rfl, rfl⟩
   refine ai ?_
   refine dK [true, true, true, true, false] (Kept.cons (by first | exact dz hRl cN hu | exact dz hR cN hu) (Kept.cons (ag Z) (Kept.cons (by first | exact bQ hRl Z | exact bQ hR Z) (Kept.cons (ag Z) Kept.nil)))) ?_
   refine dR 12 Z Z (aN (z := .agg #[.int .i64 0, .int .i64 0, .int .i64 0, .int .i64 0, .int .i64 0, .int .i64 0, .slice none 0 0]) Z Z fun b6 => ?_)
   refine dK [true, true, true, true] (Kept.cons (by first | exact dz hRl cN hu | exact dz hR cN hu) (Kept.cons (ag Z) (Kept.cons (by first | exact bQ hRl Z | exact bQ hR Z) (Kept.cons (ag Z) Kept.nil)))) ?_
   refine dP 13 Z Z (ax Z) ?_
   refine dR 14 Z Z (aK (vs := av nd (.slice A nd.after.length c)) Z (m := 7) Z Z Z Z (by simp [av, Value.oneCell']) (by show 0 + 7 ≤ 7; omega) ?_)
   exact dK [false, false, false, false] Kept.nil (dE (aD b6 (av nd (.slice A nd.after.length c)).toArray Z (aD b3 (fL ⟨id, (k : Int), wh⟩).toArray Z (bb b6 trivial ⟨rfl, rfl, rfl, rfl, rfl, trivial⟩ al))))
  ·
   refine dK [true, true, true, true, true] (Kept.cons (by first | exact dz hRl cN hu | exact dz hR cN hu) (Kept.cons (ag Z) (Kept.cons (by first | exact bQ hRl Z | exact bQ hR Z) (Kept.cons (ag Z) (Kept.cons (aw Z) Kept.nil))))) ?_
   refine dR 2 Z Z (ah Z Z Z hE (jo (wh := wh) hR hs (by omega)) (Ent.trans (Ent.sel HasEng.sel) (Ent.refl _)) ?_)
   rintro v m ⟨rfl, rfl⟩
   refine ai ?_
   refine dK [true, true, true, true, false] (Kept.cons (by first | exact dz hRl cN hu | exact dz hR cN hu) (Kept.cons (ag Z) (Kept.cons (by first | exact bQ hRl Z | exact bQ hR Z) (Kept.cons (ag Z) Kept.nil)))) ?_
   refine dP 13 Z Z (ax Z) ?_
   refine dR 14 Z Z (aK (vs := av nd (.slice A nd.after.length c)) Z (m := 7) Z Z Z Z (by simp [av, Value.oneCell']) (by show 0 + 7 ≤ 7; omega) ?_)
   exact dK [false, false, false, false] Kept.nil (dE (aD b6 (av nd (.slice A nd.after.length c)).toArray Z (aD b3 (fL ⟨id, (k : Int), wh⟩).toArray Z (bb b6 trivial ⟨rfl, rfl, rfl, rfl, rfl, trivial⟩ al))))
 rintro b6 -
 refine At.ent (l' := ap e p (S.leave id k) :: blk b3 268 (fL ⟨id, (k : Int), wh⟩).toArray :: eX b4 (aO (p.fb id)) :: blk b6 46 (av nd (.slice A nd.after.length c)).toArray :: fr) (Ent.refl _) ?_
 refine At.seq (At.seq (Dr.start Z (dP 0 Z Z (ae Z) (dP 1 Z Z (am Z) (dP 2 Z Z (ab (off := 1) Z Z) (dL 3 Z Z (aa (v := .int .i64 s.CE) Z Z) (ec hRl hsl Z) (dP 4 Z Z (ab (off := 0) Z Z) (dL 5 Z Z (aa Z Z) (ag Z) (dP 6 Z Z (bl Z Z Z) (dE (At.then ?_)))))))))))
 refine aE Z (fun c32 => ?_) (fun c32 => ?_)
 ·
  refine At.seq (At.region (L.mv Z Z (aR Z Z (aI 0 Z Z Z ?_))))
  refine L.op Z (iP (S := S.leave id k) (R := R.setS k { s with token := 0 }) (s := { s with token := 0 }) (j := 0) (s' := { s with token := 0, state := 4 }) hRl hsl Z Z Z Z (by omega) Z Z ?_)
  refine L.nil (At.then (At.seq ?_))
  obtain ⟨T, hT⟩ : ∃ T, T = (S.leave id k).setR id (R.turned k s 4) := ⟨_, rfl⟩
  have hRT : T.getR id = some (R.turned k s 4) := by rw [hT]; exact FK.ch hRl
  have hsT : (R.turned k s 4).CF[k]? = some { s with token := 0, state := 4 } := FK.cv hsl
  have hTn : T.now = S.now := by rw [hT, FK.dI hR hs]; rfl
  have hTs : T.sets = S.sets := by rw [hT, FK.dI hR hs]; rfl
  have hTd : T.seed = S.seed := by rw [hT, FK.dI hR hs]; rfl
  have hTt : T.tms.length ≤ S.tms.length := by rw [hT]; exact FK.kf
  refine At.ent (l' := ap e p T :: blk b3 268 (fL ⟨id, (k : Int), wh⟩).toArray :: eX b4 (aO (p.fb id)) :: blk b6 46 (av nd (.slice A nd.after.length c)).toArray :: fr) (by rw [hT]; exact Ent.refl _) ?_
  rw [← hTd] at hrest hseed
  refine Dr.start Z (dP 0 Z Z (ae Z) (dP 1 Z Z (am Z) (dP 2 Z Z (ab (off := 6) Z Z) ?_)))
  refine dL 3 Z Z (aa Z Z) (aU fun _ _ _ => rfl) ?_
  refine dP 4 Z Z (ab (off := 0) Z Z) (dL 5 Z Z (aa Z Z) (ag Z) (dP 6 Z Z (ab (off := 1) Z Z) (dL 7 Z Z (aa Z Z) (ag Z) (dP 8 Z Z (bn (cs := #[.int .u64 id, .int .i64 (k : Int), .int .i64 1]) Z Z Z Z Z) (dP 9 Z Z (ae Z) (dL 10 Z Z (ao (vs := av nd (.slice A nd.after.length c)) Z Z Z Z) (aw Z) (dP 11 Z Z (ae Z) (dP 12 Z Z (am Z) (dP 13 Z Z (ab (off := 1) Z Z) (dL 14 Z Z (aa (v := .int .i64 s.CE) Z Z) (ec hRT hsT Z) (dP 15 Z Z (ae Z) (dP 16 Z Z (am Z) (dP 17 Z Z (ab (off := 0) Z Z) ?_)))))))))))))
  refine dL 18 Z Z (aa (v := .int .u64 T.seed) Z Z) (aU fun _ _ _ => rfl) ?_
  refine dR 19 Z Z (ah Z Z Z hE (pw nd A nd.after.length c s.CE T.seed h1 h2 h3 h4 h5 hseed) (Ent.refl _) ?_)
  rintro v m ⟨rfl, rfl⟩
  rw [List.nil_append]
  refine dK [false, false, false, true, true, true] (Kept.cons (ag Z) (Kept.cons (ag Z) (Kept.cons (aU fun _ _ _ => rfl) Kept.nil))) ?_
  refine dR 20 Z Z (ah Z Z Z hE (jt (S := T) (eY nd.base nd.cap nd.CK s.CE T.seed) (by omega) hrest.1 hrest.2) (Ent.refl _) ?_)
  rintro v m ⟨rfl, rfl⟩
  refine ai ?_
  refine dK [true, true, true] (Kept.cons (ag Z) (Kept.cons (ag Z) (Kept.cons (aU fun _ _ _ => rfl) Kept.nil))) ?_
  refine dR 21 Z Z (ah Z Z Z hE (m4 (S := T) ⟨id, (k : Int), 1⟩ (T.later (eY nd.base nd.cap nd.CK s.CE T.seed).toNat) (by unfold FK.En.later; omega) (by unfold FK.En.later; omega) (by omega) (by omega)) (Ent.refl _) ?_)
  rintro v m ⟨rfl, rfl⟩
  refine ai (dK [true, true, false] (Kept.cons (ag Z) (Kept.cons (ag Z) Kept.nil)) (dE (At.then (At.ret (aG (bm [_] rfl ⟨rfl, .inl ⟨by omega, rfl⟩⟩ ?_))))))
  have hfin : T.setT ⟨id, (k : Int), 1⟩ (T.later (eY nd.base nd.cap nd.CK s.CE T.seed).toNat) = S.rests id k R s (eY nd.base nd.cap nd.CK s.CE S.seed).toNat := by rw [hTd, hT]; rfl
  rw [← hfin]
  exact Ent.cons (Ent.drop.trans (Ent.drop.trans Ent.drop))
 ·
  refine At.skip (At.then (At.seq (At.region (L.mv Z Z (aR Z Z (aI 0 Z Z Z ?_))))))
  refine L.op Z (iP (S := S.leave id k) (R := R.setS k { s with token := 0 }) (s := { s with token := 0 }) (j := 0) (s' := { s with token := 0, state := 6 }) hRl hsl Z Z Z Z (by omega) Z Z ?_)
  refine L.nil (At.then (At.seq ?_))
  have hRT : ∀ T, ((S.leave id k).setR id ((R.turned k s 6).skips T)).getR id = some ((R.turned k s 6).skips T) := fun T => FK.ch hRl
  refine At.ent (l' := ap e p ((S.leave id k).setR id ((R.turned k s 6).skips [])) :: eX b4 (aO (p.fb id)) :: blk b3 268 (fL ⟨id, (k : Int), wh⟩).toArray :: blk b6 46 (av nd (.slice A nd.after.length c)).toArray :: fr) (Ent.cons (Ent.sel (.tail .head))) ?_
  refine At.region (bd Z Z Z Z (aR Z Z (aI 0 Z Z Z (aI 1 Z Z Z (L.val Z (aa (v := (p.ra id).nv R) Z Z) (bQ (hRT []) Z) ?_)))))
  refine L.pure Z (eO Z Z) ?_
  refine L.op Z (ah Z Z Z hE (uo (l := R.fl.CG) (F := 255) (cap := #[aO b4]) (L := fun T => [ap e p ((S.leave id k).setR id ((R.turned k s 6).skips T)), eX b4 (aO (p.fb id))]) hn (aft_lt hfit) (fun n hn x hx => (hfit n hn x hx).1) (fun _ _ => rfl) hG (fun n T w F hst hF => (by
 obtain ⟨F1, F2, f1, _, _, hp, _⟩ := hst
 exact xA (R := (R.turned k s 6).skips T) (hRT T) hp (fun q hq => hF q (f1 q hq)) hsm)) (fun n T j hj _ _ => (by
 refine (tg (h := n) (c := b4) (hRT T) (by rw [og]; exact hlen) hfit (by show R.fl.CG.length ≤ 100; omega) hj).mono ?_
 rintro v m ⟨rfl, rfl⟩
 refine ⟨_, ⟨rfl, rfl⟩, ?_⟩
 rw [FK.ed]
 have hfold : ({ (R.turned k s 6).skips T with CF := FK.bY ((R.turned k s 6).skips T).fl.CG ((R.turned k s 6).skips T).CF j } : FK.Rn) = (R.turned k s 6).skips (T ++ [j]) := by
  unfold FK.Rn.skips
  rw [List.foldl_append]
  rfl
 rw [hfold]
 exact Ent.refl _))) (Ent.refl _) ?_)
  rintro v m ⟨left, T, rfl, hord, hstuck, rfl⟩
  refine aJ (L.nil (At.then (At.region (L.mv Z Z (aI 0 Z Z Z (bd Z Z Z Z ?_))))))
  refine L.op Z (ah Z Z Z hE (mA (hRT T) (by rw [og]; omega) (by show (S.leave id k).CH.length ≤ 400; rw [FK.jX]; omega) (by show (S.leave id k).tms.length ≤ 99999; have := FK.kf (S := S) (id := id) (k := k); omega) (by show (S.leave id k).ends < _; rw [FK.dI hR hs]; exact hends)) (Ent.refl _) ?_)
  rintro v m ⟨rfl, rfl⟩
  refine ai (L.nil ?_)
  exact bm [ap e p (S.dies id k R s T)] rfl ⟨rfl, .inr ⟨by omega, left, T, hord, hstuck, rfl⟩⟩ (Ent.cons (Ent.drop.trans (Ent.drop.trans Ent.drop)))
open Go Go.RowKit Go.SL
variable {G : Env → Prop}
theorem vx {e : Nat} {p : EA} {S : FK.En} (up : Nat) (hto : S.now ≤ up) (hto62 : up ≤ 4611686018427387904) (hsq : S.sets < 9223372036854775808) (hln : S.tms.length ≤ 99999) :
 Does Tryz.prog Good 236 [aO p.w, .int .u64 up].toArray [ap e p S] fun v m => (∃ (x : FK.KD) (tms' : List FK.KD), FK.IsMin S.tms x tms' ∧ x.2 ≤ up ∧ v = .tuple #[gE x.1, .int .u64 x.2, .bool true] ∧ m = [ap e p { S with now := x.2, tms := tms' }]) ∨
  ((∀ y ∈ S.tms, up < y.2) ∧ v = .tuple #[gE ⟨0, 0, 0⟩, .int .u64 0, .bool false] ∧ m = [ap e p { S with now := up }]) := by
 refine jw fun W hW => (y3 p.w up hW.inv (by rw [hW.now]; exact hto) hto62 (Nat.lt_of_le_of_lt hW.seq hsq) (by have := congrArg List.length hW.tms; rw [List.length_map] at this; omega)).mono ?_
 rintro v m (⟨S', x, h1, h2, h3, h4, h5, rfl, rfl⟩ | ⟨S', h1, h2, h3, h4, h5, rfl, rfl⟩)
 · rw [hW.tms] at h1
   exact ⟨_, ⟨S', x.2, S.sets, S'.tms.map FK.kd, rfl, ⟨h4, h5 ▸ hW.seq, h3, rfl⟩, .inl ⟨x, _, h1, h2, rfl, rfl⟩⟩, Ent.refl _⟩
 · rw [hW.tms] at h1 h2
   exact ⟨_, ⟨S', up, S.sets, S.tms, rfl, ⟨h4, h5 ▸ hW.seq, h3, h2⟩, .inr ⟨h1, rfl, rfl⟩⟩, Ent.refl _⟩
set_option maxRecDepth 10000 in
theorem tx {e : Nat} {p : EA} {S : FK.En} {id : Nat} {R : FK.Rn} (hR : S.getR id = some R) (hn : R.CF.length ≤ 100) (hq : S.CH.length ≤ 400) (hl : S.tms.length ≤ 99999) (hends : S.ends < 9223372036854775807) : Does Tryz.prog G 209 [aO e, aY id].toArray [ap e p S] fun v m => v = .tuple #[] ∧ m = [ap e p (S.finish id 4)] := by
 refine Does.body Tryz.func209 Z Z fun E fr hE => ?_
 refine ai (At.region (L.mv Z Z (L.mv Z Z ?_)))
 refine L.op Z (ah Z Z Z hE (jY hR hn hq hl hends) (Ent.refl _) ?_)
 rintro v m ⟨rfl, rfl⟩
 exact ai (L.nil (bm [_] rfl ⟨rfl, rfl⟩ (Ent.refl _)))
end Go.Proofs.YtmeegfamopaljaaGreatDoor

namespace FK
def qm (p : Nat × Nat) (c : UInt8) : Nat × Nat := ((p.1 + c.toNat) % 65521, (p.2 + (p.1 + c.toNat) % 65521) % 65521)
def dW (bs : List UInt8) : Nat × Nat := bs.foldl qm (1, 0)
def fP (bs : List UInt8) : Nat := (dW bs).2 * 65536 + (dW bs).1
theorem pZ (bs : List UInt8) : (dW bs).1 < 65521 ∧ (dW bs).2 < 65521 := by
 have h : ∀ (l : List UInt8) (p : Nat × Nat), p.1 < 65521 ∧ p.2 < 65521 → (l.foldl qm p).1 < 65521 ∧ (l.foldl qm p).2 < 65521 := by
  intro l
  induction l with
  | nil => exact fun p h => h
  | cons c l ih => exact fun p _ => ih _ ⟨Nat.mod_lt _ (by omega), Nat.mod_lt _ (by omega)⟩
 exact h bs (1, 0) ⟨by decide, by decide⟩
end FK
namespace Go.Proofs.YtmeegfamopaljaaGreatDoor
open Go Go.RowKit Go.SL
variable {G : Env → Prop}
theorem wu32 {a : Nat} (h : a < 4294967296) : IntKind.u32.wrap (a : Int) = (a : Int) := by
 simp only [IntKind.wrap, IntKind.bits, IntKind.signed]
 simp
 omega
set_option maxRecDepth 10000 in
theorem ry {p : HP} {A : Option Addr} {bs : List UInt8} (c : Nat) (hp : Reads p A bs) (hl : bs.length ≤ 9223372036854775807) : Does Tryz.prog G 201 [.slice A bs.length c].toArray [p] fun v m => v = .int .u32 (FK.fP bs) ∧ m = [p] := by
 refine Does.body Tryz.func201 Z Z fun E fr hE => ?_
 refine ai (At.seq (At.region (L.as Z Z (L.nil (At.then (At.seq (At.region (L.as Z Z (L.as Z Z (L.nil (At.then (At.seq (At.seq (At.region (L.mv Z Z (L.pure Z (aM Z Z) (L.mv Z Z (L.nil (At.then ?_)))))))))))))))))))
 refine At.block ?_
 refine bk (X := Nat) (fun k => [(9, .int .i64 k), (8, .int .i64 bs.length), (7, .slice A bs.length c), (3, .int .u32 (FK.dW (bs.take k)).1), (4, .int .u32 (FK.dW (bs.take k)).2)]) (fun _ => p :: fr) (fun k => k ≤ bs.length) (fun k => bs.length - k) 0 (Nat.zero_le _) ⟨rfl, rfl, rfl, rfl, rfl, trivial⟩ (Ent.refl _) ?_
 intro k hk
 refine At.seq (At.region (L.pure Z (bl Z Z Z) (L.nil (At.then (At.seq ?_)))))
 refine aE Z (fun c10 => ?_) (fun c10 => ?_)
 ·
  have hlt : k < bs.length := by omega
  obtain ⟨x, hx⟩ : ∃ x, bs[k]? = some x := ⟨bs[k], by simp [hlt]⟩
  obtain ⟨g, o, hA⟩ := hp.form (by intro h; rw [h] at hlt; simp at hlt)
  subst hA
  have htk : FK.dW (bs.take (k + 1)) = FK.qm (FK.dW (bs.take k)) x := by rw [List.take_add_one, hx]; unfold FK.dW; rw [List.foldl_append]; rfl
  obtain ⟨h1, h2⟩ := FK.pZ (bs.take k)
  have hx8 : x.toNat < 256 := x.toNat_lt
  refine At.skip (At.then (At.seq (At.block (At.seq (At.region (L.pure Z (aT (z := 1) Z Z Z Z hlt) ?_))))))
  refine L.val Z (aa (v := .int .u8 x.toNat) Z Z) (fun w hw => by have := hp.at (.head) Z hx w hw; simpa using this) ?_
  refine L.as Z Z (L.nil (At.then (At.seq (At.region (L.mv Z Z (L.mv Z Z (L.pure Z (bz (r := (x.toNat : Int)) Z Z Z (wu32 (by omega))) (L.pure Z (aS (r := (((FK.dW (bs.take k)).1 + x.toNat : Nat) : Int)) Z Z (wu32 (by omega))) (L.pure Z (kI (r := ((((FK.dW (bs.take k)).1 + x.toNat) % 65521 : Nat) : Int)) Z Z (by omega) (m5 (b := 65521) (by omega) (by omega))) (L.as Z Z (L.nil (At.then (At.region (L.mv Z Z (L.mv Z Z (L.pure Z (aS (r := (((FK.dW (bs.take k)).2 + ((FK.dW (bs.take k)).1 + x.toNat) % 65521 : Nat) : Int)) Z Z (wu32 (by omega))) (L.pure Z (kI (r := ((((FK.dW (bs.take k)).2 + ((FK.dW (bs.take k)).1 + x.toNat) % 65521) % 65521 : Nat) : Int)) Z Z (by omega) (m5 (b := 65521) (by omega) (by omega))) (L.as Z Z (L.nil ?_)))))))))))))))))))
  refine an (At.then (At.region (L.pure Z (aS (r := ((k + 1 : Nat) : Int)) Z Z (by rw [dd (by omega)]; omega)) (L.mv Z Z (L.nil ?_)))))
  exact At.round (k + 1) hlt (by omega) ⟨rfl, rfl, rfl, by rw [htk]; rfl, by rw [htk]; rfl, trivial⟩ (Ent.refl _)
 ·
  have hke : k = bs.length := by omega
  rw [hke, List.take_length]
  obtain ⟨h1, h2⟩ := FK.pZ bs
  refine At.exit (az (ay (ar (At.then (At.seq (At.region (L.mv Z Z (L.pure Z (jI (r := (((FK.dW bs).2 * 65536 : Nat) : Int)) Z Z (by omega) (by rw [← wu32 (a := (FK.dW bs).2 * 65536) (by omega)]; congr 1)) (L.mv Z Z ?_)))))))))
  refine L.pure Z (rq (r := ((FK.fP bs : Nat) : Int)) Z Z (by
 rw [u32_or_nat _ _ (by omega) (by omega)]
 unfold FK.fP
 congr 1
 have := Nat.two_pow_add_eq_or_of_lt (i := 16) (b := (FK.dW bs).1) (by omega) (FK.dW bs).2
 rw [Nat.mul_comm, ← this])) ?_
  exact L.as Z Z (L.nil (At.then (At.ret (aA [_] rfl Z ⟨rfl, rfl⟩ (Ent.refl _)))))
end Go.Proofs.YtmeegfamopaljaaGreatDoor

namespace FK
def fM (s : Nat) : List UInt8 := [UInt8.ofNat (s / 16777216), UInt8.ofNat (s / 65536), UInt8.ofNat (s / 256), UInt8.ofNat s]
def frame (bs : List UInt8) : List UInt8 := (bA bs.length ++ bs) ++ fM (fP (bA bs.length ++ bs))
end FK
namespace Go.Proofs.YtmeegfamopaljaaGreatDoor
open Go Go.RowKit Go.SL
variable {G : Env → Prop}
section
variable {A : Option Addr} {bs : List UInt8}
theorem Reads.row {c : Nat} (h : bs ≠ [] → ∃ g, A = some ⟨g, 0, none⟩) : Reads (bO (.slice A bs.length c) bs) A bs where
 form hb := let ⟨g, h⟩ := h hb; ⟨g, 0, h⟩
 cell w F hp b o hA j x hx := by
  obtain ⟨hown, _⟩ := hp
  obtain ⟨g, hg⟩ := h (by intro h; simp [h] at hx)
  rw [hA] at hg
  injection hg with hg
  injection hg with h1 h2
  subst h1; subst h2; subst hA
  have := hown.cells (g := b) rfl j (.int .u8 x.toNat) (by simp [bR, hx])
  rwa [add_plain] at this
theorem Reads.src {E : Env} {p : HP} {l r : List HP} (h : Reads p A bs) (s : Sel p l r) : ∀ w, Holds E w l → vl A (bR bs) w := fun w hw ad had j u hj => by
 simp only [bR, List.getElem?_map, Option.map_eq_some_iff] at hj
 obtain ⟨x, hx, rfl⟩ := hj
 obtain ⟨b, o, hA⟩ := h.form (by intro h; simp [h] at hx)
 have := h.at s hA hx w hw
 rw [had] at hA
 injection hA with hA
 subst hA
 rw [add_plain]
 exact this
theorem qa (s k : Nat) : (s : Int).fdiv ((2 : Int) ^ k) = ((s / 2 ^ k : Nat) : Int) := by
 rw [Int.fdiv_eq_ediv_of_nonneg _ (Int.pow_nonneg (by omega))]
 rw [show ((2 : Int) ^ k) = ((2 ^ k : Nat) : Int) from (Int.natCast_pow 2 k).symm]
 rfl
theorem fill4 (a b c d : UInt8) : Instr.fill (fun i => some (i * 1, 1)) (Array.map (fun x => (Value.int .u8 0).cells[x % (Value.int .u8 0).cells.size]!) (Array.range (4 * 1))) ((List.map (fun x => x.fst) [((0 : Nat), Operand.tmp 16), (1, .tmp 19), (2, .tmp 22), (3, .tmp 24)]).zip (bR [a, b, c, d])) = some (bR [a, b, c, d]).toArray := by
 have e1 : Array.range (4 * 1) = #[0, 1, 2, 3] := rfl
 rw [e1]
 simp [Instr.fill, Value.cells, bR]
theorem fT (m : Nat) : IntKind.u8.wrap (m : Int) = ((UInt8.ofNat m).toNat : Int) := by
 rw [← rJ]
 simp [IntKind.wrap, IntKind.bits, IntKind.signed]
set_option maxRecDepth 10000 in
set_option maxHeartbeats 1000000 in
theorem sW {p : HP} (c : Nat) (hp : Reads p A bs) (hA : A = none → bs = []) (hl : bs.length ≤ 1099511627776) : Does Tryz.prog G 156 [.slice A bs.length c].toArray [p] fun v m => m = [bO v (FK.frame bs), p] := by
 refine Does.body Tryz.func156 Z Z fun E fr hE => ?_
 refine ai (At.seq (At.region (L.as Z Z (L.nil (At.then (At.seq (At.region (L.mv Z Z (L.pure Z (aM Z Z) (L.pure Z (bz (r := ((bs.length : Nat) : Int)) Z Z Z (by rw [kE]; omega)) ?_))))))))))
 refine L.op Z (ah Z Z Z hE (eE (.slice none 0 0) [] bs.length (by omega) (by simp)) Ent.row0 ?_)
 rintro v m rfl
 refine ai ?_
 rw [List.nil_append]
 have hN : (FK.bA bs.length).length ≤ 10 := eH (by omega)
 refine L.mv Z Z ?_
 refine L.op rfl (cm rfl rfl ia rfl (by omega) rfl rfl (HasVal.sel (v := v)) (news := bR bs) (by rw [iI]; omega) (fun h => by rw [hA h]; rfl) (Reads.src hp (.tail (.head))) (by intro u hu; obtain ⟨x, _, rfl⟩ := List.mem_map.1 hu; rfl) (by unfold maxLen; omega) (by omega) fun v10 hv10 => ?_)
 refine aC (HasVal.sel (v := v10)) ?_
 rintro A10 c10 rfl f1 f2 f3 f4 -
 refine At.ent (l' := bO (.slice A10 ((FK.bA bs.length).length + bs.length) c10) (FK.bA bs.length ++ bs) :: p :: fr) ?_ ?_
 · show Ent _ (row 5 1 _ (FK.bA bs.length ++ bs).length (bR (FK.bA bs.length ++ bs)) :: p :: fr)
   rw [List.length_append, ga]
   exact Ent.refl _
 have hlen : (FK.bA bs.length ++ bs).length = (FK.bA bs.length).length + bs.length := List.length_append
 have hform : FK.bA bs.length ++ bs ≠ [] → ∃ g, A10 = some ⟨g, 0, none⟩ := fun hne => by
  have hp := List.length_pos_iff.2 hne
  cases A10 with
  | none => have := (f1 rfl).1; omega
  | some ad => obtain ⟨g, rfl⟩ := f2 ad rfl; exact ⟨g, rfl⟩
 rw [← hlen]
 refine L.as Z Z (L.nil (At.then (At.seq (At.region (L.mv Z Z ?_)))))
 refine L.op Z (ah Z Z Z hE (ry c10 (Reads.row (c := c10) hform) (by omega)) (Ent.refl _) ?_)
 rintro v m ⟨rfl, rfl⟩
 refine ai (L.as Z Z (L.nil (At.then (At.seq ?_))))
 obtain ⟨X, hX⟩ : ∃ X, X = FK.bA bs.length ++ bs := ⟨_, rfl⟩
 have hfr : FK.frame bs = X ++ FK.fM (FK.fP X) := by rw [hX]; rfl
 rw [← hX] at hlen hform ⊢
 obtain ⟨s, hs⟩ : ∃ s, s = FK.fP X := ⟨_, rfl⟩
 rw [← hs] at hfr ⊢
 refine At.region (L.mv Z Z (L.mv Z Z ?_))
 refine L.pure Z (eZ (r := ((s / 16777216 : Nat) : Int)) Z Z (by omega) (by exact qa s 24)) ?_
 refine L.pure Z (bz (r := ((UInt8.ofNat (s / 16777216)).toNat : Int)) Z Z Z (fT _)) (L.mv Z Z ?_)
 refine L.pure Z (eZ (r := ((s / 65536 : Nat) : Int)) Z Z (by omega) (by exact qa s 16)) ?_
 refine L.pure Z (bz (r := ((UInt8.ofNat (s / 65536)).toNat : Int)) Z Z Z (fT _)) (L.mv Z Z ?_)
 refine L.pure Z (eZ (r := ((s / 256 : Nat) : Int)) Z Z (by omega) (by exact qa s 8)) ?_
 refine L.pure Z (bz (r := ((UInt8.ofNat (s / 256)).toNat : Int)) Z Z Z (fT _)) (L.mv Z Z (L.pure Z (bz (r := ((UInt8.ofNat s).toNat : Int)) Z Z Z (fT _)) ?_))
 refine L.op Z (dF (m := 4) (z := .int .u8 0) (size := 1) (ps := [(0, .tmp 16), (1, .tmp 19), (2, .tmp 22), (3, .tmp 24)]) (vs := bR (FK.fM s)) (cs := (bR (FK.fM s)).toArray) Z Z Z Z (by omega) (by omega) Z (fill4 _ _ _ _) fun b25 => ?_)
 refine L.op rfl (cm rfl rfl ia rfl (by omega) rfl rfl (HasVal.sel (v := .slice A10 X.length c10)) (news := bR (FK.fM s)) rfl (fun h => by cases h) (fN (fun j u h => by rw [Nat.zero_add]; simpa using h)) (by intro u hu; obtain ⟨x, _, rfl⟩ := List.mem_map.1 hu; rfl) (by unfold maxLen; omega) (by omega) fun v26 hv26 => ?_)
 refine L.as Z Z (L.nil (At.then (At.ret (aA [bO v26 (FK.frame bs), p] rfl Z Z ?_))))
 rw [hfr]
 show Ent _ (row 5 1 v26 (X ++ FK.fM s).length (bR (X ++ FK.fM s)) :: p :: fr)
 rw [List.length_append, ga]
 exact Ent.cons Ent.drop
end
end Go.Proofs.YtmeegfamopaljaaGreatDoor

namespace FK
def gZ : List UInt8 → Nat → Nat → Option (Nat × List UInt8)
 | [], _, _ => none
 | c :: r, i, n =>
  if c.toNat < 128 then some (n ||| c.toNat % 128 * 2 ^ min (7 * i) 64 % 18446744073709551616, r)
  else gZ r (i + 1) (n ||| c.toNat % 128 * 2 ^ min (7 * i) 64 % 18446744073709551616)
def take (bs : List UInt8) : Option (Nat × List UInt8) := gZ bs 0 0
theorem yq {a x k : Nat} (h : a < 2 ^ k) : a ||| x * 2 ^ k = a + x * 2 ^ k := by
 have := Nat.two_pow_add_eq_or_of_lt (i := k) (b := a) h x
 rw [Nat.or_comm, Nat.mul_comm, ← this, Nat.add_comm]
theorem sn (r : List UInt8) : ∀ (m i a : Nat), a < 2 ^ (7 * i) → m * 2 ^ (7 * i) + a < 18446744073709551616 → 7 * i ≤ 63 → gZ (bA m ++ r) i a = some (a + m * 2 ^ (7 * i), r) := by
 intro m
 induction m using Nat.strongRecOn with
 | ind m ih =>
  intro i a ha hm hi
  have hmin : min (7 * i) 64 = 7 * i := by omega
  by_cases h : m < 128
  · rw [gI h]
    have hc : (UInt8.ofNat m).toNat = m := by simp; omega
    show gZ (UInt8.ofNat m :: r) i a = _
    unfold gZ
    rw [hc, if_pos h, hmin, Nat.mod_eq_of_lt h, Nat.mod_eq_of_lt (a := m * 2 ^ (7 * i)) (by omega), yq ha]
  · rw [jg h]
    have hc : (UInt8.ofNat (m % 128 + 128)).toNat = m % 128 + 128 := by simp; omega
    have hd : m = 128 * (m / 128) + m % 128 := (Nat.div_add_mod m 128).symm
    have hp : (2 : Nat) ^ (7 * (i + 1)) = 2 ^ (7 * i) * 128 := by rw [Nat.mul_add, Nat.pow_add]
    have hpos : 0 < (2 : Nat) ^ (7 * i) := Nat.two_pow_pos _
    have hlow : m % 128 * 2 ^ (7 * i) ≤ m * 2 ^ (7 * i) := Nat.mul_le_mul_right _ (Nat.mod_le _ _)
    have e1 : m / 128 * 2 ^ (7 * (i + 1)) + m % 128 * 2 ^ (7 * i) = m * 2 ^ (7 * i) := by
     rw [hp]
     conv => rhs; rw [hd, Nat.add_mul]
     rw [Nat.mul_comm (2 ^ (7 * i)) 128, ← Nat.mul_assoc, Nat.mul_comm (m / 128) 128]
    have hmod : (m % 128 + 128) % 128 = m % 128 := by omega
    show gZ (UInt8.ofNat (m % 128 + 128) :: (bA (m / 128) ++ r)) i a = _
    unfold gZ
    rw [hc, if_neg (by omega), hmin, hmod, Nat.mod_eq_of_lt (a := m % 128 * 2 ^ (7 * i)) (by omega), yq ha]
    have hlt : a + m % 128 * 2 ^ (7 * i) < 2 ^ (7 * (i + 1)) := by
     have h1 : m % 128 * 2 ^ (7 * i) ≤ 127 * 2 ^ (7 * i) := Nat.mul_le_mul_right _ (by omega)
     rw [hp]
     omega
    by_cases hi' : 7 * (i + 1) ≤ 63
    · rw [ih (m / 128) (by omega) (i + 1) _ hlt (by omega) hi']
      congr 2
      omega
    · have hi9 : i = 9 := by omega
      subst hi9
      omega
theorem pq {n : Nat} (h : n < 18446744073709551616) (r : List UInt8) : take (bA n ++ r) = some (n, r) := by
 unfold take
 rw [sn r n 0 0 (by omega) (by omega) (by omega)]
 simp
def next (bs : List UInt8) : Option (List UInt8 × List UInt8) :=
 match take bs with
 | none => none
 | some (n, body) =>
  if body.length < n + 4 then none
  else if (body.drop n).take 4 = fM (fP (bs.take (bs.length - body.length + n))) then some (body.take n, body.drop (n + 4)) else none
theorem uw (x r : List UInt8) (h : x.length < 18446744073709551616) : next (frame x ++ r) = some (x, r) := by
 unfold next
 have e : frame x ++ r = bA x.length ++ (x ++ (fM (fP (bA x.length ++ x)) ++ r)) := by unfold frame; simp
 have e4 : (fM (fP (bA x.length ++ x))).length = 4 := rfl
 rw [e, pq h]
 simp only
 rw [if_neg (by simp only [List.length_append]; omega)]
 have hb : (bA x.length ++ (x ++ (fM (fP (bA x.length ++ x)) ++ r))).take ((bA x.length ++ (x ++ (fM (fP (bA x.length ++ x)) ++ r))).length - (x ++ (fM (fP (bA x.length ++ x)) ++ r)).length + x.length) = bA x.length ++ x := by
  rw [← List.append_assoc]
  exact List.take_left' (by simp only [List.length_append]; omega)
 rw [hb]
 have h1 : ((x ++ (fM (fP (bA x.length ++ x)) ++ r)).drop x.length).take 4 = fM (fP (bA x.length ++ x)) := by
  rw [List.drop_left]
  exact List.take_left' rfl
 rw [if_pos h1]
 have h2 : (x ++ (fM (fP (bA x.length ++ x)) ++ r)).take x.length = x := List.take_left
 have h3 : (x ++ (fM (fP (bA x.length ++ x)) ++ r)).drop (x.length + 4) = r := by
  rw [← List.append_assoc]
  exact List.drop_left' (by simp only [List.length_append]; omega)
 rw [h2, h3]
end FK

namespace Go.SL
open Go Go.RowKit
section
variable {P : Program} {ts : List (Nat × Value)}
section
variable {e t : TypeId} {A : Option Addr} {cap n : Nat}
theorem xu {x lo hi mx : Operand} {len a b c z : Nat} {k1 k2 k3 : IntKind} (ht : P.underlying t = some (.slice e)) (hz : ce P e z) (hx : ev ts x = some (.slice A len cap))
 (hlo : ev ts lo = some (.int k1 (a : Int))) (hhi : ev ts hi = some (.int k2 (b : Int))) (hmx : ev ts mx = some (.int k3 (c : Int))) (h1 : a ≤ b) (h2 : b ≤ c) (h3 : c ≤ cap) :
 Ev P ts (.slice t x (some lo) (some hi) (some mx)) (.slice (if c = a then A else A.map (·.add (a * z))) (b - a) (c - a)) Any := by
 intro ac w _ _ _ _ _ kn _
 simp [execOp, Instr.sliceAt, Instr.slice, run_underlying ht, kn.eval hx, kn.eval hlo, kn.eval hhi, kn.eval hmx, Instr.sliceBounds, Instr.sliceBound, asIntOf, bT hz, h1, h2, h3]
theorem yz {x : Operand} {len : Nat} (ht : P.underlying t = some (.array n e)) (hx : ev ts x = some (.slice A len cap)) (h : n ≤ len) : Ev P ts (.sliceToArrayPointer t x) (.pointer A) Any := by
 intro ac w _ _ _ _ _ kn _
 have : ¬ len < n := by omega
 simp [execOp, Instr.arrayAt, run_underlying ht, kn.eval hx, this]
theorem pT {size : Nat} {z : Value} {ps : List (Nat × Operand)} {vs : List Value} {cs : Array Value} (hu : P.underlying t = some (.array n e)) (hs : ce P e size) (hz : fA P t z)
 (hx : evs ts (ps.map (·.2)) = some vs) (hf : Instr.fill (fun i => some (i * size, size)) z.cells ((ps.map (·.1)).zip vs) = some cs) : Ev P ts (.build t ps.toArray) (.agg cs) Any := by
 intro a w _ _ _ _ _ kn _
 have he : (ps.toArray.map fun p => (p.1, a.eval p.2)).toList = (ps.map (·.1)).zip vs := by
  have := cT kn hx
  rw [← this]
  simp
  clear hx hf this
  induction ps with
  | nil => rfl
  | cons p ps ih => simp; exact ih
 simp only [execOp, Instr.build, Sem.run_bind, fj hz, run_underlying hu, Result.andThen_ok, bT hs, he]
 simp only [Result.andThen_ok, hf, Sem.run_pure]
theorem i8 {d : Nat} {e : TypeId} {k : IntKind} (he : P.underlying e = some (.int k)) {us bs : List Int} {w : World} : ∀ (is : List Nat), (∀ i ∈ is, i < us.length ∧ i < bs.length) →
 (Op.eqItems (d + 1) e 1 (us.map (Value.int k)).toArray (bs.map (Value.int k)).toArray is).run P w = .ok (is.all fun i => us[i]? == bs[i]?) w
 | [], _ => by simp [Op.eqItems]
 | i :: is, h => by
  have ih := i8 (d := d) he (us := us) (bs := bs) (w := w) is fun j hj => h j (.tail _ hj)
  obtain ⟨h1, h2⟩ := h i (.head _)
  obtain ⟨a, ha⟩ : ∃ a, us[i]? = some a := ⟨us[i], by simp [h1]⟩
  obtain ⟨b, hb⟩ : ∃ b, bs[i]? = some b := ⟨bs[i], by simp [h2]⟩
  have hp : ∀ (cs : Array Value) (v : Value), cs[i * 1]? = some v → (part e cs (i * 1)).run P w = .ok v w := fun cs v hv => by
   rw [Nat.mul_one] at hv
   simp [part, isAgg, run_underlying he, hv]
  have hx : (us.map (Value.int k)).toArray[i * 1]? = some (.int k a) := by simp [ha]
  have hy : (bs.map (Value.int k)).toArray[i * 1]? = some (.int k b) := by simp [hb]
  have hq : (Op.equalIn (d + 1) e (.int k a) (.int k b)).run P w = .ok (a == b) w := run_equalIn_int w d e k k a b he
  simp only [Op.eqItems, Sem.run_bind, hp _ _ hx, hp _ _ hy, hq, Result.andThen_ok]
  have hab : (us[i]? == bs[i]?) = (a == b) := by rw [ha, hb]; rfl
  rw [List.all_cons, hab]
  cases hc : a == b with
  | true => simpa using ih
  | false => simp
theorem vP {t' : TypeId} {k : IntKind} {i : TypeInfo} {x y : Operand} {us bs : List Int} {r : Bool} (ht : P.underlying t = some (.array n e)) (hi : P.info? e = some i) (he : P.underlying e = some (.int k)) (hc : P.cellsOf e = 1) (hm : P.eqGuardType P.depth t = false)
 (hx : ev ts x = some (.agg (us.map (Value.int k)).toArray)) (hy : ev ts y = some (.agg (bs.map (Value.int k)).toArray)) (ha : us.length = n) (hb : bs.length = n) (hr : decide (us ≠ bs) = r) :
 Ev P ts (.binOp .neq t x y t') (.bool r) Any := by
 intro ac w _ _ _ _ _ kn _
 subst hr
 refine dm (kn.eval hx) (kn.eval hy) (run_eqGuard_agg w _ _ _ _ _ _ hm) ?_
 rw [run_neq_struct, run_equalIn_array (d := 9999) (w := w) (P := P) _ _ ht hi, hc, i8 (d := 9998) he (List.range n) (fun j hj => by have := List.mem_range.1 hj; omega), Result.andThen_ok]
 congr 2
 have : ((List.range n).all fun i => us[i]? == bs[i]?) = decide (us = bs) := by
  rw [Bool.eq_iff_iff, List.all_eq_true]
  simp only [decide_eq_true_eq, beq_iff_eq]
  constructor
  · intro h
    refine List.ext_getElem? fun j => ?_
    by_cases hj : j < n
    · exact h j (List.mem_range.2 hj)
    · rw [List.getElem?_eq_none (by omega), List.getElem?_eq_none (by omega)]
  · intro h j _
    rw [h]
 rw [this]
 by_cases h : us = bs <;> simp [h]
end
end
end Go.SL
namespace Go.Proofs.YtmeegfamopaljaaGreatDoor
open Go Go.RowKit Go.SL
section
variable {A A' : Option Addr} {bs : List UInt8} {k : Nat}
theorem ig (b o k : Nat) : (⟨b, o, none⟩ : Addr).add k = ⟨b, o + k, none⟩ := by
 unfold Addr.add
 by_cases h : k = 0 <;> simp [h]
theorem Reads.sub {p : HP} {n : Nat} (h : Reads p A bs) (hA : (bs.drop k).take n ≠ [] → A' = A.map (·.add k)) : Reads p A' ((bs.drop k).take n) where
 form hne := by
  have hbs : bs ≠ [] := by intro e; rw [e] at hne; simp at hne
  obtain ⟨b, o, rfl⟩ := h.form hbs
  exact ⟨b, o + k, by rw [hA hne, Option.map_some, ig]⟩
 cell w F hs b o he j x hx := by
  have hne : (bs.drop k).take n ≠ [] := by intro e; rw [e] at hx; simp at hx
  have hbs : bs ≠ [] := by intro e; rw [e] at hne; simp at hne
  obtain ⟨b0, o0, rfl⟩ := h.form hbs
  rw [hA hne] at he
  have he' : (⟨b0, o0 + k, none⟩ : Addr) = ⟨b, o, none⟩ := by rw [Option.map_some, ig] at he; exact Option.some.inj he
  injection he' with e1 e2
  subst e1; subst e2
  have hx' : bs[k + j]? = some x := by
   rw [List.getElem?_take] at hx
   split at hx
   · rw [List.getElem?_drop] at hx; exact hx
   · cases hx
  rw [Nat.add_assoc]
  exact h.cell w F hs b0 o0 Z (k + j) x hx'
theorem Reads.dropk {p : HP} (h : Reads p A bs) (hA : bs.drop k ≠ [] → A' = A.map (·.add k)) : Reads p A' (bs.drop k) := by
 have := h.sub (k := k) (n := bs.length) (A' := A') (fun hne => hA (by intro e; rw [e] at hne; simp at hne))
 rwa [List.take_of_length_le (by simp)] at this
theorem Reads.rowAt {E : Env} {p : HP} {l r : List HP} {b o n : Nat} (h : Reads p A bs) (s : Sel p l r) (hA : A = some ⟨b, o, none⟩) : ∀ w, Holds E w l → gY b (o + k) (bR ((bs.drop k).take n)) w := fun w hw j v hv => by
 unfold bR at hv
 rw [List.getElem?_map] at hv
 cases hx : ((bs.drop k).take n)[j]? with
 | none => rw [hx] at hv; cases hv
 | some x =>
  rw [hx] at hv
  injection hv with hv
  subst hv
  have hx' : bs[k + j]? = some x := by
   rw [List.getElem?_take] at hx
   split at hx
   · rw [List.getElem?_drop] at hx; exact hx
   · cases hx
  have := h.at s hA hx' w hw
  rw [Nat.add_assoc]
  exact this
end
end Go.Proofs.YtmeegfamopaljaaGreatDoor

set_option maxRecDepth 10000
namespace Go.Proofs.YtmeegfamopaljaaGreatDoor
open Go Go.RowKit Go.SL
variable {G : Env → Prop}
abbrev wa (A : Option Addr) (n c k : Nat) : Value := .slice (if c = k then A else A.map (·.add (k * 1))) (n - k) (c - k)
section
variable {bs : List UInt8} {A : Option Addr} {c k o : Nat}
theorem zW {b : Nat} : ∃ o', (if c = k then some (⟨b, o, none⟩ : Addr) else (some (⟨b, o, none⟩ : Addr)).map (·.add (k * 1))) = some ⟨b, o', none⟩ := by
 split
 · exact ⟨o, rfl⟩
 · exact ⟨o + k * 1, by rw [Option.map_some, ig]⟩
theorem Reads.cut {p : HP} (h : Reads p A bs) (hc : bs.length ≤ c) : Reads p (if c = k then A else A.map (·.add (k * 1))) (bs.drop k) :=
 h.dropk fun hne => by
  have hlt : k < bs.length := by
   refine Nat.lt_of_not_le fun hle => hne (List.drop_eq_nil_of_le hle)
  rw [if_neg (by omega), Nat.mul_one]
theorem wu64n {a : Nat} : IntKind.u64.wrap (a : Int) = ((a % 18446744073709551616 : Nat) : Int) := by
 simp [IntKind.wrap, IntKind.bits, IntKind.signed]
theorem in64 {n : Int} (h1 : 0 ≤ n) (h2 : n < 2 ^ 64) : IntKind.u64.wrap n = n := by
 have : (2 : Int) ^ 64 = 18446744073709551616 := by decide
 exact SL.wu64 ⟨h1, by omega⟩
theorem or64 {a b : Nat} (ha : a < 18446744073709551616) (hb : b < 18446744073709551616) : bits .or .u64 (a : Int) (b : Int) = ((a ||| b : Nat) : Int) :=
 (bits_nat .u64 64 (by decide) (fun _ h1 h2 => in64 h1 h2) a b (by omega) (by omega)).2
def zZ (A : Option Addr) (c : Nat) (bs : List UInt8) (v : Value) : Prop :=
 (FK.take bs = none ∧ v = .tuple #[.int .u64 0, .slice none 0 0]) ∨ ∃ n k, FK.take bs = some (n, bs.drop k) ∧ k ≤ bs.length ∧ n < 18446744073709551616 ∧ v = .tuple #[.int .u64 n, wa A bs.length c k]
theorem lY {p : HP} (hp : Reads p A bs) (hc : bs.length ≤ c) (hl : bs.length ≤ 140737488355328) : Does Tryz.prog G 173 [.slice A bs.length c].toArray [p] fun v m => zZ A c bs v ∧ m = [p] := by
 refine Does.body Tryz.func173 Z Z fun E fr hE => ?_
 refine ai (At.seq (At.region (L.as Z Z (L.as Z Z (L.nil (At.then (At.seq (At.region (L.as Z Z (L.nil (At.then (At.seq (At.seq (At.region (L.mv Z Z (L.pure Z (aM Z Z) (L.mv Z Z (L.nil (At.then ?_)))))))))))))))))))
 refine At.block ?_
 refine bk (X := Nat × Nat) (fun x => [(9, .int .i64 x.1), (8, .int .i64 bs.length), (7, .slice A bs.length c), (4, .int .u64 x.2), (0, .slice A bs.length c)]) (fun _ => p :: fr) (fun x => x.1 ≤ bs.length ∧ x.2 < 18446744073709551616 ∧ FK.take bs = FK.gZ (bs.drop x.1) x.1 x.2) (fun x => bs.length - x.1) (0, 0) ⟨Nat.zero_le _, by omega, rfl⟩ ⟨rfl, rfl, rfl, rfl, rfl, trivial⟩ (Ent.refl _) ?_
 rintro ⟨k, a⟩ ⟨hk, ha, ht⟩
 simp only at hk ha ht
 refine At.seq (At.region (L.pure Z (bl Z Z Z) (L.nil (At.then (At.seq ?_)))))
 refine aE Z (fun c10 => ?_) (fun c10 => ?_)
 ·
  have hlt : k < bs.length := by have : (k : Int) < (bs.length : Int) := c10; omega
  obtain ⟨x, hx⟩ : ∃ x, bs[k]? = some x := ⟨bs[k], by simp [hlt]⟩
  obtain ⟨g, o, hA⟩ := hp.form (by intro h; rw [h] at hlt; simp at hlt)
  subst hA
  have hx8 : x.toNat < 256 := x.toNat_lt
  have hd : bs.drop k = x :: bs.drop (k + 1) := by
   obtain ⟨h1, rfl⟩ := List.getElem?_eq_some_iff.1 hx
   exact List.drop_eq_getElem_cons h1
  have hb : x.toNat % 128 * 2 ^ min (7 * k) 64 % 18446744073709551616 < 18446744073709551616 := Nat.mod_lt _ (by omega)
  have hn' : a ||| x.toNat % 128 * 2 ^ min (7 * k) 64 % 18446744073709551616 < 18446744073709551616 := Nat.or_lt_two_pow (n := 64) ha hb
  refine At.skip (At.then (At.seq (At.block (At.seq (At.region (L.mv Z Z (L.pure Z (aT (z := 1) Z Z Z Z hlt) ?_)))))))
  refine L.val Z (aa (v := .int .u8 x.toNat) Z Z) (fun w hw => by have := hp.at (.head) Z hx w hw; simpa using this) ?_
  refine L.as Z Z (L.as Z Z (L.nil (At.then (At.seq (At.region (L.mv Z Z (L.mv Z Z (L.pure Z (tN (r := ((x.toNat % 128 : Nat) : Int)) Z Z (vY _ hx8)) (L.pure Z (bz (r := ((x.toNat % 128 : Nat) : Int)) Z Z Z (wu64 (by omega))) (L.mv Z Z (L.pure Z (lU (r := ((7 * k : Nat) : Int)) Z Z (by rw [dd (by omega)]; omega)) (L.pure Z (jI (r := ((x.toNat % 128 * 2 ^ min (7 * k) 64 % 18446744073709551616 : Nat) : Int)) Z Z (by omega) (by rw [Int.toNat_natCast, ← wu64n]; congr 1)) ?_))))))))))))
  refine L.pure Z (rq (r := ((a ||| x.toNat % 128 * 2 ^ min (7 * k) 64 % 18446744073709551616 : Nat) : Int)) Z Z (or64 ha hb)) ?_
  refine L.as Z Z (L.nil (At.then (At.seq (At.region (L.mv Z Z (L.pure Z (bl Z Z Z) (L.nil (At.then ?_))))))))
  refine aE Z (fun c23 => ?_) (fun c23 => ?_)
  ·
   have hs : x.toNat < 128 := by have : ((x.toNat : Nat) : Int) < 128 := c23; omega
   have hres : FK.take bs = some (a ||| x.toNat % 128 * 2 ^ min (7 * k) 64 % 18446744073709551616, bs.drop (k + 1)) := by
    rw [ht, hd, FK.gZ, if_pos hs]
   refine At.seq (Dr.start Z (dP 0 Z Z (ae Z) (dP 1 Z Z (ae Z) (dP 2 Z Z (ae Z) (dP 3 Z Z (aS (r := ((k + 1 : Nat) : Int)) Z Z (by rw [dd (by omega)]; omega)) (dP 4 Z Z (dc (z := 1) (a := k + 1) (b := bs.length) Z Z Z ⟨_, rfl⟩ rfl (by omega) (by omega)) (dP 5 Z Z (ax Z) (dP 6 Z Z (ax Z) (dE (At.then (At.ret (aB (aG (cp (aB (aG ?_))))))))))))))))
   exact cU [p] rfl Z Z ⟨.inr ⟨_, k + 1, hres, by omega, hn', rfl⟩, rfl⟩ (Ent.refl _)
  ·
   have hs : ¬ x.toNat < 128 := by have : ¬ ((x.toNat : Nat) : Int) < 128 := c23; omega
   have hres2 : FK.take bs = FK.gZ (bs.drop (k + 1)) (k + 1) (a ||| x.toNat % 128 * 2 ^ min (7 * k) 64 % 18446744073709551616) := by
    rw [ht, hd, FK.gZ, if_neg hs]
   refine At.skip (an (At.then (At.region (L.pure Z (aS (r := ((k + 1 : Nat) : Int)) Z Z (by rw [dd (by omega)]; omega)) (L.mv Z Z (L.nil ?_))))))
   exact At.round (k + 1, _) ⟨by show k + 1 ≤ bs.length; omega, hn', hres2⟩ (by show bs.length - (k + 1) < bs.length - k; omega) ⟨rfl, rfl, rfl, rfl, rfl, trivial⟩ (Ent.refl _)
 ·
  have hke : k = bs.length := by have : ¬ (k : Int) < (bs.length : Int) := c10; omega
  refine At.exit (az (ay (ar (At.then (At.seq (At.region (L.as Z Z (L.as Z Z (L.nil (At.then (At.ret ?_)))))))))))
  exact cU [p] rfl Z Z ⟨.inl ⟨by rw [ht, hke, List.drop_length]; rfl, rfl⟩, rfl⟩ (Ent.refl _)
theorem cut0 {g n : Nat} : Value.slice (if c = 0 then some (⟨g, o, none⟩ : Addr) else (some (⟨g, o, none⟩ : Addr)).map (·.add (0 * 1))) (n - 0) (c - 0) = .slice (some ⟨g, o, none⟩) n c := by
 rw [Option.map_some, ig]
 simp
theorem Reads.head {p : HP} {g : Nat} (h : Reads p (some ⟨g, o, none⟩) bs) (n : Nat) : Reads p (some ⟨g, o, none⟩) (bs.take n) := by
 have := h.sub (k := 0) (n := n) (A' := some ⟨g, o, none⟩) (fun _ => by rw [Option.map_some, ig]; rfl)
 rwa [List.drop_zero] at this
def uI (x : UInt8) : Int := x.toNat
theorem sa (l : List UInt8) : bR l = (l.map uI).map (Value.int .u8) := by
 unfold bR
 rw [List.map_map]
 rfl
theorem yg : ∀ {l m : List UInt8}, l.map uI = m.map uI → l = m
 | [], [], _ => rfl
 | [], _ :: _, h => by cases h
 | _ :: _, [], h => by cases h
 | x :: l, y :: m, h => by
  injection h with h1 h2
  have h1 : (x.toNat : Int) = y.toNat := h1
  rw [yg h2, UInt8.toNat_inj.1 (by omega : x.toNat = y.toNat)]
theorem BL (a b c d : UInt8) : Instr.fill (fun i => some (i * 1, 1)) (Value.agg #[.int .u8 0, .int .u8 0, .int .u8 0, .int .u8 0]).cells ((List.map (fun x => x.fst) [((0 : Nat), Operand.tmp 54), (1, .tmp 57), (2, .tmp 60), (3, .tmp 62)]).zip (([a, b, c, d].map uI).map (Value.int .u8))) = some (([a, b, c, d].map uI).map (Value.int .u8)).toArray := by
 simp [Instr.fill, Value.cells]
theorem yy : Tryz.prog.eqGuardType Tryz.prog.depth 345 = false := by kernel_rfl
theorem AQ {n s : Nat} (ht : FK.take bs = some (n, bs.drop k)) (hk : k ≤ bs.length) (hb : n + 4 ≤ bs.length - k) (hs : s = FK.fP (bs.take (k + n))) : FK.next bs = if (bs.drop (k + n)).take 4 = FK.fM s then some ((bs.drop k).take n, bs.drop (k + n + 4)) else none := by
 unfold FK.next
 rw [ht]
 simp only
 rw [if_neg (by rw [List.length_drop]; omega), List.length_drop, show bs.length - (bs.length - k) + n = k + n by omega, List.drop_drop, List.drop_drop, hs]
 rfl
def z8 (p : HP) (bs : List UInt8) (v : Value) : Prop :=
 (FK.next bs = none ∧ v = .tuple #[.slice none 0 0, .slice none 0 0, .bool false]) ∨
  ∃ x r A1 c1 A2 c2, FK.next bs = some (x, r) ∧ v = .tuple #[.slice A1 x.length c1, .slice A2 r.length c2, .bool true] ∧ Reads p A1 x ∧ x.length ≤ c1 ∧ Reads p A2 r ∧ r.length ≤ c2
set_option maxHeartbeats 1000000 in
theorem wW {p : HP} (hp : Reads p A bs) (hc : bs.length ≤ c) (hl : bs.length ≤ 140737488355328) : Does Tryz.prog G 171 [.slice A bs.length c].toArray [p] fun v m => z8 p bs v ∧ m = [p] := by
 refine Does.body Tryz.func171 Z Z fun E fr hE => ?_
 refine ai (At.seq (At.region (L.as Z Z (L.as Z Z (L.as Z Z (L.nil (At.then (At.seq ?_))))))))
 by_cases HT : FK.take bs = none
 ·
  refine At.region (L.mv Z Z ?_)
  refine L.op Z (ah Z Z Z hE (lY hp hc hl) (Ent.refl _) ?_)
  rintro v m ⟨hv, rfl⟩
  refine ai ?_
  obtain rfl : v = .tuple #[.int .u64 0, .slice none 0 0] := by
   rcases hv with ⟨_, h⟩ | ⟨n, k, h, _⟩
   · exact h
   · rw [HT] at h; cases h
  refine L.mv Z Z (L.ex Z Z Z (L.ex Z Z Z (L.as Z Z (L.as Z Z (L.nil (At.then (At.seq (At.region (L.mv Z Z (L.pure Z (aM Z Z) (L.mv Z Z (L.pure Z (aM Z Z) (L.pure Z (eu (r := (bs.length : Int)) Z Z (by rw [dd (by omega)]; omega)) (L.as Z Z (L.nil (At.then (At.seq (At.seq (At.region ?_)))))))))))))))))))
  refine L.mv Z Z (L.pure Z (jp Z Z Z) (L.mv Z Z (L.off Z Z Z Z Z Z (L.off Z Z Z Z Z Z (L.off Z Z Z Z Z Z (L.off Z Z Z Z Z Z (L.off Z Z Z Z Z Z (L.pure Z (aq Z Z Z) (L.mv Z Z (L.off Z Z Z Z Z Z (L.off Z Z Z Z Z Z (L.off Z Z Z Z Z Z (L.off Z Z Z Z Z Z (L.off Z Z Z Z Z Z (L.off Z Z Z Z Z Z (L.pure Z (aq Z Z Z) (L.nil (At.then (aQ Z ?_)))))))))))))))))))
  refine At.seq (At.region (L.as Z Z (L.as Z Z (L.as Z Z (L.nil (At.then (At.ret (aG ?_))))))))
  exact f8 [p] rfl Z Z Z ⟨.inl ⟨by unfold FK.next; rw [HT], rfl⟩, rfl⟩ (Ent.refl _)
 ·
  refine At.region (L.mv Z Z ?_)
  refine L.op Z (ah Z Z Z hE (lY hp hc hl) (Ent.refl _) ?_)
  rintro v m ⟨hv, rfl⟩
  refine ai ?_
  obtain ⟨n, k, ht, hk, hn, rfl⟩ : ∃ n k, FK.take bs = some (n, bs.drop k) ∧ k ≤ bs.length ∧ n < 18446744073709551616 ∧ v = .tuple #[.int .u64 n, wa A bs.length c k] := by
   rcases hv with ⟨h, _⟩ | h
   · exact absurd h HT
   · exact h
  obtain ⟨g, o, rfl⟩ := hp.form (by rintro rfl; exact HT rfl)
  obtain ⟨o', ho'⟩ := zW (b := g) (o := o) (c := c) (k := k)
  have hnone : ¬ n + 4 ≤ bs.length - k → FK.next bs = none := fun h => by unfold FK.next; rw [ht]; simp only; rw [if_pos (by rw [List.length_drop]; omega)]
  rw [show wa (some ⟨g, o, none⟩) bs.length c k = .slice (some ⟨g, o', none⟩) (bs.length - k) (c - k) by unfold wa; rw [ho']]
  refine L.mv Z Z (L.ex Z Z Z (L.ex Z Z Z (L.as Z Z (L.as Z Z (L.nil (At.then (At.seq (At.region (L.mv Z Z (L.pure Z (aM Z Z) (L.mv Z Z (L.pure Z (aM Z Z) (L.pure Z (eu (r := ((k : Nat) : Int)) Z Z (by rw [dd (by omega)]; omega)) (L.as Z Z (L.nil (At.then (At.seq (At.seq ?_))))))))))))))))))
  by_cases HA : n ≤ bs.length - k
  ·
   by_cases HB : n + 4 ≤ bs.length - k
   ·
    refine At.region (L.mv Z Z (L.pure Z (jp Z Z Z) (L.mv Z Z (lT Z Z Z (ae Z) (lT Z Z Z (ae Z) (lT Z Z Z (aM Z Z) (lT Z Z Z (bz Z Z Z (wu64 (by omega))) (lT Z Z Z (cG (r := false) Z Z (by simp; omega)) (L.pure Z (aq Z Z Z) (L.mv Z Z (lT Z Z Z (ae Z) (lT Z Z Z (aM Z Z) (lT Z Z Z (bz Z Z Z (wu64 (by omega))) (lT Z Z Z (ae Z) (lT Z Z Z (eu (r := ((bs.length - k - n : Nat) : Int)) Z Z (by rw [SL.wu64 (by omega)]; omega)) (lT Z Z Z (bl (r := false) Z Z (by simp; omega)) (L.pure Z (aq Z Z Z) (L.nil (At.then ?_)))))))))))))))))))
    refine aj Z (At.skip (At.then (At.seq (At.region (L.mv Z Z (L.mv Z Z (L.pure Z (bz (r := (n : Int)) Z Z Z (dd (by omega))) (L.pure Z (aS (r := ((k + n : Nat) : Int)) Z Z (by rw [dd (by omega)]; omega)) (L.as Z Z (L.nil (At.then (At.seq ?_))))))))))))
    have hlen : (bs.take (k + n)).length = k + n := by rw [List.length_take]; omega
    obtain ⟨s, hs⟩ : ∃ s, s = FK.fP (bs.take (k + n)) := ⟨_, rfl⟩
    have hsum : Does Tryz.prog G 201 [.slice (some ⟨g, o, none⟩) (k + n) c].toArray [p] fun v m => v = .int .u32 s ∧ m = [p] := by
     have h := ry (G := G) c (hp.head (k + n)) (by omega)
     rw [hlen, ← hs] at h
     exact h
    have hnext : FK.next bs = if (bs.drop (k + n)).take 4 = FK.fM s then some ((bs.drop k).take n, bs.drop (k + n + 4)) else none := AQ ht hk HB hs
    refine At.region (L.mv Z Z (L.mv Z Z (L.pure Z (dc (z := 1) (a := 0) (b := k + n) Z Z Z Z ⟨_, rfl⟩ (by omega) (by omega)) ?_)))
    rw [cut0]
    refine L.op Z (ah Z Z Z hE hsum (Ent.refl _) ?_)
    rintro v m ⟨rfl, rfl⟩
    refine ai (L.as Z Z (L.nil (At.then (At.seq (At.seq ?_)))))
    by_cases HS : (bs.drop (k + n)).take 4 = FK.fM s
    ·
     refine At.region (L.mv Z Z (L.mv Z Z (L.mv Z Z (L.pure Z (aS (r := ((k + n + 4 : Nat) : Int)) Z Z (by rw [dd (by omega)]; omega)) (L.pure Z (dc (z := 1) (a := k + n) (b := k + n + 4) Z Z Z ⟨_, rfl⟩ ⟨_, rfl⟩ (by omega) (by omega)) ?_)))))
     rw [if_neg (show ¬ c = k + n by omega), Option.map_some, ig, Nat.mul_one]
     refine L.pure Z (yz (n := 4) Z Z (by omega)) ?_
     refine L.val Z (ao (n := 4) (vs := (((bs.drop (k + n)).take 4).map uI).map (Value.int .u8)) Z Z (by simp; omega) Z) (fun w hw => by rw [← sa]; exact hp.rowAt .head Z w hw) ?_
     refine L.mv Z Z ?_
     refine L.pure Z (eZ (r := ((s / 16777216 : Nat) : Int)) Z Z (by omega) (by exact qa s 24)) ?_
     refine L.pure Z (bz (r := ((UInt8.ofNat (s / 16777216)).toNat : Int)) Z Z Z (fT _)) (L.mv Z Z ?_)
     refine L.pure Z (eZ (r := ((s / 65536 : Nat) : Int)) Z Z (by omega) (by exact qa s 16)) ?_
     refine L.pure Z (bz (r := ((UInt8.ofNat (s / 65536)).toNat : Int)) Z Z Z (fT _)) (L.mv Z Z ?_)
     refine L.pure Z (eZ (r := ((s / 256 : Nat) : Int)) Z Z (by omega) (by exact qa s 8)) ?_
     refine L.pure Z (bz (r := ((UInt8.ofNat (s / 256)).toNat : Int)) Z Z Z (fT _)) (L.mv Z Z (L.pure Z (bz (r := ((UInt8.ofNat s).toNat : Int)) Z Z Z (fT _)) (L.pure Z (pT (size := 1) (ps := [(0, .tmp 54), (1, .tmp 57), (2, .tmp 60), (3, .tmp 62)]) (vs := ((FK.fM s).map uI).map (Value.int .u8)) (cs := (((FK.fM s).map uI).map (Value.int .u8)).toArray) Z Z Z Z (BL _ _ _ _)) (L.pure Z (vP (n := 4) (us := ((bs.drop (k + n)).take 4).map uI) (bs := (FK.fM s).map uI) (r := false) Z Z Z Z yy Z Z (by simp; omega) Z (by rw [HS]; simp)) (L.nil (At.then (aj Z (At.skip (At.then (At.seq (Dr.start Z (dP 0 Z Z (ae Z) (dP 1 Z Z (ae Z) (dP 2 Z Z (ae Z) (dP 3 Z Z (ae Z) (dP 4 Z Z (xu (z := 1) (a := k) (b := k + n) (c := k + n) Z Z Z Z Z Z (by omega) (Nat.le_refl _) (by omega)) (dP 5 Z Z (ae Z) (dP 6 Z Z (ae Z) (dP 7 Z Z (aS (r := ((k + n + 4 : Nat) : Int)) Z Z (by rw [dd (by omega)]; omega)) ?_)))))))))))))))))))
     refine dP 8 Z Z (dc (z := 1) (a := k + n + 4) (b := bs.length) Z Z Z ⟨_, rfl⟩ rfl (by omega) (by omega)) (dP 9 Z Z (ax Z) (dP 10 Z Z (ax Z) (dP 11 Z Z (ax Z) (dE (At.then (At.ret ?_))))))
     have hx1 : ((bs.drop k).take n).length = k + n - k := by rw [List.length_take, List.length_drop]; omega
     have hx2 : (bs.drop (k + n + 4)).length = bs.length - (k + n + 4) := List.length_drop
     refine f8 [p] rfl Z Z Z ⟨.inr ⟨(bs.drop k).take n, bs.drop (k + n + 4), _, _, _, _, by rw [hnext, if_pos HS], by rw [hx1, hx2], ?_, by omega, hp.cut hc, by omega⟩, rfl⟩ (Ent.refl _)
     exact hp.sub fun hne => by rw [if_neg (fun h => hne (by rw [show n = 0 by omega, List.take_zero])), Nat.mul_one]
    ·
     refine At.region (L.mv Z Z (L.mv Z Z (L.mv Z Z (L.pure Z (aS (r := ((k + n + 4 : Nat) : Int)) Z Z (by rw [dd (by omega)]; omega)) (L.pure Z (dc (z := 1) (a := k + n) (b := k + n + 4) Z Z Z ⟨_, rfl⟩ ⟨_, rfl⟩ (by omega) (by omega)) ?_)))))
     rw [if_neg (show ¬ c = k + n by omega), Option.map_some, ig, Nat.mul_one]
     refine L.pure Z (yz (n := 4) Z Z (by omega)) ?_
     refine L.val Z (ao (n := 4) (vs := (((bs.drop (k + n)).take 4).map uI).map (Value.int .u8)) Z Z (by simp; omega) Z) (fun w hw => by rw [← sa]; exact hp.rowAt .head Z w hw) ?_
     refine L.mv Z Z ?_
     refine L.pure Z (eZ (r := ((s / 16777216 : Nat) : Int)) Z Z (by omega) (by exact qa s 24)) ?_
     refine L.pure Z (bz (r := ((UInt8.ofNat (s / 16777216)).toNat : Int)) Z Z Z (fT _)) (L.mv Z Z ?_)
     refine L.pure Z (eZ (r := ((s / 65536 : Nat) : Int)) Z Z (by omega) (by exact qa s 16)) ?_
     refine L.pure Z (bz (r := ((UInt8.ofNat (s / 65536)).toNat : Int)) Z Z Z (fT _)) (L.mv Z Z ?_)
     refine L.pure Z (eZ (r := ((s / 256 : Nat) : Int)) Z Z (by omega) (by exact qa s 8)) ?_
     refine L.pure Z (bz (r := ((UInt8.ofNat (s / 256)).toNat : Int)) Z Z Z (fT _)) (L.mv Z Z (L.pure Z (bz (r := ((UInt8.ofNat s).toNat : Int)) Z Z Z (fT _)) (L.pure Z (pT (size := 1) (ps := [(0, .tmp 54), (1, .tmp 57), (2, .tmp 60), (3, .tmp 62)]) (vs := ((FK.fM s).map uI).map (Value.int .u8)) (cs := (((FK.fM s).map uI).map (Value.int .u8)).toArray) Z Z Z Z (BL _ _ _ _)) ?_)))
     refine L.pure Z (vP (n := 4) (us := ((bs.drop (k + n)).take 4).map uI) (bs := (FK.fM s).map uI) (r := true) Z Z Z Z yy Z Z (by simp; omega) Z (by simp only [decide_eq_true_eq]; exact fun h => HS (yg h))) ?_
     refine L.nil (At.then (aQ Z (At.seq (At.region (L.as Z Z (L.as Z Z (L.as Z Z (L.nil (At.then (At.ret (aG ?_)))))))))))
     exact f8 [p] rfl Z Z Z ⟨.inl ⟨by rw [hnext, if_neg HS], rfl⟩, rfl⟩ (Ent.refl _)
   ·
    refine At.region (L.mv Z Z (L.pure Z (jp Z Z Z) (L.mv Z Z (lT Z Z Z (ae Z) (lT Z Z Z (ae Z) (lT Z Z Z (aM Z Z) (lT Z Z Z (bz Z Z Z (wu64 (by omega))) (lT Z Z Z (cG (r := false) Z Z (by simp; omega)) (L.pure Z (aq Z Z Z) (L.mv Z Z (lT Z Z Z (ae Z) (lT Z Z Z (aM Z Z) (lT Z Z Z (bz Z Z Z (wu64 (by omega))) (lT Z Z Z (ae Z) (lT Z Z Z (eu (r := ((bs.length - k - n : Nat) : Int)) Z Z (by rw [SL.wu64 (by omega)]; omega)) (lT Z Z Z (bl (r := true) Z Z (by simp; omega)) (L.pure Z (aq Z Z Z) (L.nil (At.then ?_)))))))))))))))))))
    refine aQ Z (At.seq (At.region (L.as Z Z (L.as Z Z (L.as Z Z (L.nil (At.then (At.ret (aG ?_)))))))))
    exact f8 [p] rfl Z Z Z ⟨.inl ⟨by rw [hnone (by omega)], rfl⟩, rfl⟩ (Ent.refl _)
  ·
   refine At.region (L.mv Z Z (L.pure Z (jp Z Z Z) (L.mv Z Z (lT Z Z Z (ae Z) (lT Z Z Z (ae Z) (lT Z Z Z (aM Z Z) (lT Z Z Z (bz Z Z Z (wu64 (by omega))) (lT Z Z Z (cG (r := true) Z Z (by simp; omega)) (L.pure Z (aq Z Z Z) (L.mv Z Z (L.off Z Z Z Z Z Z (L.off Z Z Z Z Z Z (L.off Z Z Z Z Z Z (L.off Z Z Z Z Z Z (L.off Z Z Z Z Z Z (L.off Z Z Z Z Z Z (L.pure Z (aq Z Z Z) (L.nil (At.then ?_)))))))))))))))))))
   refine aQ Z (At.seq (At.region (L.as Z Z (L.as Z Z (L.as Z Z (L.nil (At.then (At.ret (aG ?_)))))))))
   exact f8 [p] rfl Z Z Z ⟨.inl ⟨by rw [hnone (by omega)], rfl⟩, rfl⟩ (Ent.refl _)
end
end Go.Proofs.YtmeegfamopaljaaGreatDoor

namespace Go.SL
open Go Go.RowKit
section
variable {P : Program} {E : Env} {n : Nat} {D : List Deferred} {ts : List (Nat × Value)} {l : List HP} {ops : Array Oper} {Q : Exit → Act → World → Prop} {rest : List Oper} {i : Nat} {ty : TypeId} {pos : String} {af : Array Edge} {g : Option (Nat × Bool)}
theorem evAs {op : Op} {v v' : Value} {φ : World → Prop} (h : Ev P ts op v φ) (e : v = v') : Ev P ts op v' φ := e ▸ h
theorem vQ {t t' : TypeId} {x : Operand} {p : Option Addr} {m c : Nat} (ht : P.underlying t = some (.slice t')) (hx : ev ts x = some (.slice p m c)) : Ev P ts (.call { callee := .builtin .cap, args := #[x], argTypes := #[t] }) (.int .i64 c) Any := by
 intro a w _ _ _ _ _ kn _
 simp [execOp, resolve, invoke, builtin, Builtin.cap_, kn.eval hx, run_underlying ht, goInt]
theorem Cf {s x : Operand} {t tn e : TypeId} {z : Value} {bytes : Nat} {kn : IntKind} {k : Nat} {K : Act → World → Prop} (hi : Nat.blt i n = true) (ht : P.underlying t = some (.slice e)) (htn : P.underlying tn = some (.int kn)) (hel : e7 P e z 1 bytes) (hzs : z.cells.size = 1)
 (hs : ev ts s = some (.slice none 0 0)) (hx : ev ts x = some (.int .i64 k)) (h0 : 0 < k) (hm : k ≤ maxLen) (hb : k * bytes ≤ 140737488355328)
 (h : ∀ b cap, k ≤ cap → At E n D ((i, .slice (some ⟨b, 0, none⟩) k cap) :: ts) (row e 1 (.slice (some ⟨b, 0, none⟩) 0 cap) 0 [] :: l) K) :
 At E n D ts l (fun a w => (Oper.mk (some i) (.call { callee := .builtin .append, args := #[s, x], argTypes := #[t, tn] }) ty pos af g).wp P a w K Q) := fun a w f hw => by
 obtain ⟨ti, hti, e0, e1, e2⟩ := info_parts hel
 have hold : (Builtin.firstCells ti.size 0 (.slice none 0 0)).run P w.drew = .ok ([] : List Value).toArray w.drew := rfl
 have h63 : k ≤ 9223372036854775807 := by unfold maxLen at hm; omega
 have hcap : Builtin.nextslicecap (0 + k) 0 * ti.bytes ≤ 281474976710656 := by
  have : Builtin.nextslicecap (0 + k) 0 = k := by
   unfold Builtin.nextslicecap
   rw [if_pos (by omega)]
   omega
  rw [this, e2]
  omega
 have hr := Go.Lib.run_append_grow_zeros (P := P) w t tn ty e ti z .i64 kn ht htn hti e0 none 0 0 [] hold k h0 (by rw [e1]; omega) (by omega) (by omega) (by rw [e2]; omega) hcap
 obtain ⟨cap, hcape⟩ : ∃ cap, cap = grownCap w (0 + k) 0 e := ⟨_, rfl⟩
 rw [← hcape] at hr
 have hge : k ≤ cap := by rw [hcape]; have := grownCap_ge w (0 + k) 0 e; omega
 have hle : cap ≤ maxLen := by rw [hcape]; exact grownCap_le_maxLen w (0 + k) 0 e (by omega)
 have : (execOp a.eval (Oper.mk (some i) (.call { callee := .builtin .append, args := #[s, x], argTypes := #[t, tn] }) ty pos af g)).run P w = .ok (.value (.slice (some ⟨w.heap.size, 0, none⟩) (0 + k) cap)) (w.drew.alloc (.cells (([] : List Value).toArray ++ Builtin.zeroCells z.cells k ++ Builtin.zeroCells z.cells (cap - (0 + k))) e)) := by
  simp [execOp, resolve, invoke, builtin, f.eval hs, f.eval hx, hr]
 show (Oper.mk (some i) (.call { callee := .builtin .append, args := #[s, x], argTypes := #[t, tn] }) ty pos af g).wp P a w K Q
 unfold Oper.wp
 rw [this, Nat.zero_add]
 have hsz : ∀ m, (Builtin.zeroCells z.cells m).size = m := fun m => by unfold Builtin.zeroCells; simp [hzs]
 refine h _ _ hge _ _ (f.put i (Nat.le_of_ble_eq_true hi) _) (((hw.drawn _).alloc _).ent ?_)
 refine cC (m := 0) (Nat.zero_le _) hle ?_ (by simp)
 simp [hsz]
 omega
end
end Go.SL

namespace FK
def fQ {K V : Type} [BEq K] (m : List (K × V)) (a : K) (v : V) : List (K × V) := match m.findIdx? (·.1 == a) with
 | some j => m.set j (a, v)
 | none => m ++ [(a, v)]
def dO {K V : Type} [BEq K] (m : List (K × V)) (a : K) : Option V := (m.find? (·.1 == a)).map (·.2)
theorem qZ {K V W : Type} [BEq K] (m : List (K × V)) (f : V → W) (a : K) : (m.map fun p => (p.1, f p.2)).findIdx? (·.1 == a) = m.findIdx? (·.1 == a) := by
 induction m with
 | nil => rfl
 | cons p m ih => simp only [List.map_cons, List.findIdx?_cons, ih]
theorem xe {K V W : Type} [BEq K] (m : List (K × V)) (f : V → W) (a : K) (v : V) : fQ (m.map fun p => (p.1, f p.2)) a (f v) = (fQ m a v).map fun p => (p.1, f p.2) := by
 unfold fQ
 rw [qZ]
 cases m.findIdx? (·.1 == a) with
 | none => simp
 | some j => simp [List.map_set]
structure DOp where
 kind : Int
 name : ByteArray
 data : ByteArray
abbrev mU := List (ByteArray × ByteArray)
structure Dsk where
 dur : mU
 now : mU
 pend : List DOp
 left : Int
 full : Int
 down : Bool
def dh (fs : mU) (o : DOp) : mU := if o.kind = 2 then fQ fs o.name (match dO fs o.name with | some w => w ++ o.data | none => o.data) else if o.kind = 1 then fQ fs o.name o.data else if o.kind = 3 then fs.eraseP (·.1 == o.name) else fs
def Dsk.writes (d : Dsk) : Dsk × Int := if d.down = true ∨ d.left = 0 then ({ d with down := true }, 11) else if d.full = 0 then ({ d with left := Go.IntKind.i64.wrap (d.left - 1), full := -1 }, 10) else ({ d with left := Go.IntKind.i64.wrap (d.left - 1), full := Go.IntKind.i64.wrap (d.full - 1) }, 0)
def Dsk.tell (d : Dsk) (o : DOp) : Dsk × Int :=
 if d.writes.2 = 11 then ({ d.writes.1 with pend := d.writes.1.pend ++ [o] }, 11) else if d.writes.2 ≠ 0 then d.writes else if o.kind = 3 ∧ dO d.writes.1.now o.name = none then (d.writes.1, 9) else ({ d.writes.1 with now := dh d.writes.1.now o, pend := d.writes.1.pend ++ [o] }, 0)
def Dsk.sync (d : Dsk) : Dsk × Int := if d.writes.2 ≠ 0 then d.writes else ({ d.writes.1 with dur := d.writes.1.pend.foldl dh d.writes.1.dur, pend := [] }, 0)
def kW (fs : mU) : Nat := (fs.map fun x => x.2.size).sum
def gW (l : List DOp) : Nat := (l.map fun o => o.data.size).sum
theorem qq {fs : mU} {n w : ByteArray} (h : dO fs n = some w) : w.size ≤ kW fs := by
 unfold dO at h
 induction fs with
 | nil => cases h
 | cons x fs ih =>
  rw [List.find?_cons] at h
  unfold kW at ih ⊢
  rw [List.map_cons, List.sum_cons]
  cases hx : x.1 == n with
  | true => rw [hx] at h; simp at h; subst h; omega
  | false => rw [hx] at h; have := ih h; omega
theorem pJ {K V : Type} [BEq K] {m : List (K × V)} {a : K} (h : dO m a = none) (v : V) : fQ m a v = m ++ [(a, v)] := by
 unfold fQ
 have : m.findIdx? (·.1 == a) = none := by
  rw [List.findIdx?_eq_none_iff]
  intro x hx
  unfold dO at h
  cases hf : m.find? (·.1 == a) with
  | none =>
   have := List.find?_eq_none.1 hf x hx
   simpa using this
  | some y => rw [hf] at h; cases h
 rw [this]
theorem yL {l : List Nat} : ∀ {j x y : Nat}, l[j]? = some x → (l.set j y).sum + x = l.sum + y := by
 induction l with
 | nil => intro j x y h; simp at h
 | cons a l ih =>
  intro j x y h
  cases j with
  | zero => simp at h; subst h; simp; omega
  | succ j => have := ih (y := y) (by simpa using h); simp only [List.set_cons_succ, List.sum_cons]; omega
theorem zx {K V : Type} [BEq K] {m : List (K × V)} {a : K} {j : Nat} (h : m.findIdx? (·.1 == a) = some j) : ∃ x, m[j]? = some x ∧ dO m a = some x.2 := by
 induction m generalizing j with
 | nil => simp at h
 | cons y m ih =>
  rw [List.findIdx?_cons] at h
  unfold dO at ih ⊢
  rw [List.find?_cons]
  cases hy : y.1 == a with
  | true => rw [hy] at h; simp at h; subst h; exact ⟨y, rfl, rfl⟩
  | false =>
   rw [hy] at h
   simp only [Bool.false_eq_true, if_false, Option.map_eq_some_iff] at h
   obtain ⟨i, hi, rfl⟩ := h
   obtain ⟨x, h1, h2⟩ := ih hi
   exact ⟨x, by simpa using h1, h2⟩
theorem vo {fs : mU} {n s : ByteArray} : kW (fQ fs n s) + (match dO fs n with | some w => w.size | none => 0) = kW fs + s.size := by
 cases hf : fs.findIdx? (·.1 == n) with
 | none =>
  have hg : dO fs n = none := by
   unfold dO
   cases h : fs.find? (·.1 == n) with
   | none => rfl
   | some y =>
    have h1 := List.find?_some h
    have h2 := List.findIdx?_eq_none_iff.1 hf y (List.mem_of_find?_eq_some h)
    rw [h1] at h2; cases h2
  rw [pJ hg, hg]
  simp [kW]
 | some j =>
  obtain ⟨x, h1, h2⟩ := zx hf
  rw [h2]
  have : fQ fs n s = fs.set j (n, s) := by unfold fQ; rw [hf]
  rw [this]
  unfold kW
  rw [List.map_set]
  exact yL (by rw [List.getElem?_map, h1]; rfl)
theorem Ap {fs : mU} {n : ByteArray} : kW (fs.eraseP (·.1 == n)) ≤ kW fs := by
 induction fs with
 | nil => exact Nat.le_refl _
 | cons x fs ih =>
  rw [List.eraseP_cons]
  unfold kW at ih ⊢
  cases x.1 == n with
  | true => simp
  | false => simp; omega
theorem tJ (fs : mU) (o : DOp) : kW (dh fs o) ≤ kW fs + o.data.size := by
 unfold dh
 split
 · have := @vo fs o.name (match dO fs o.name with | some w => w ++ o.data | none => o.data)
   cases h : dO fs o.name with
   | none => rw [h] at this; simp at this ⊢; omega
   | some w => rw [h] at this; simp [ByteArray.size_append] at this ⊢; omega
 · split
   · have := @vo fs o.name o.data
     omega
   · split
     · have := @Ap fs o.name
       omega
     · omega
theorem ru : ∀ (l : List DOp) (fs : mU), kW (l.foldl dh fs) ≤ kW fs + gW l
 | [], _ => Nat.le_refl _
 | o :: l, fs => by
  have h1 := ru l (dh fs o)
  have h2 := tJ fs o
  have h3 : gW (o :: l) = o.data.size + gW l := by simp [gW]
  rw [List.foldl_cons, h3]
  omega
end FK

namespace Go.SL
open Go Go.RowKit
section
variable {P : Program} {E : Env} {n : Nat} {D : List Deferred} {ts : List (Nat × Value)} {l : List HP} {ops : Array Oper} {Q : Exit → Act → World → Prop} {i : Nat} {ty : TypeId} {pos : String} {af : Array Edge} {g : Option (Nat × Bool)} {K : Type} [BEq K] {enc : K → Value}
theorem si {m : List (K × Value)} {a : K} (h : m.findIdx? (·.1 == a) = none) : cI m a = none := by
 have := eI m a
 rw [h] at this
 simpa using this.symm
theorem qf {t kt et : TypeId} {x y z : Operand} {b : Nat} {m : List (K × Value)} {a : K} {v : Value} {r : List HP} {d : Option Tmp} {Kk : Act → World → Prop} (hd : d = none) (ht : P.underlying t = some (.map kt et)) (hk : KeyK P kt K enc) (hx : ev ts x = some (.map (some b))) (hy : ev ts y = some (enc a)) (hz : ev ts z = some v)
 (s : Sel (bP enc b m) l r) (h : At E n D ts (bP enc b (FK.fQ m a v) :: r) Kk) : At E n D ts l (fun ac w => (Oper.mk d (.mapUpdate t x y z) ty pos af g).wp P ac w Kk Q) := by
 cases hf : m.findIdx? (·.1 == a) with
 | none =>
  have hp : FK.fQ m a v = m ++ [(a, v)] := by unfold FK.fQ; rw [hf]
  rw [hp] at h
  exact qg hd ht hk hx hy hz s (si hf) h
 | some j =>
  have hp : FK.fQ m a v = m.set j (a, v) := by unfold FK.fQ; rw [hf]
  rw [hp] at h
  intro ac w f hw
  subst hd
  have hw' := hw.sel s
  obtain ⟨es, c, hb, hm, hs1, hs2⟩ := fB .head w hw'
  have h1 := hk.find w es.toList m a hm
  rw [hf] at h1
  have hg := MapKept.run_getObj_map (P := P) hb
  obtain ⟨hjl, hj1, _⟩ := List.findIdx?_eq_some_iff_getElem.1 hf
  have hmj : m[j]? = some m[j] := List.getElem?_eq_getElem hjl
  have hlen : es.toList.length = m.length := by simpa using congrArg List.length hm
  have hej : ∃ e, es[j]? = some e ∧ e.key = enc m[j].1 := by
   have := congrArg (fun l => l[j]?) hm
   simp only [List.getElem?_map, hmj, Option.map_some] at this
   cases he : es.toList[j]? with
   | none => rw [he] at this; cases this
   | some e =>
    rw [he] at this
    simp only [Option.map_some, Option.some.injEq, Prod.mk.injEq] at this
    exact ⟨e, by rw [← Array.getElem?_toList]; exact he, this.1⟩
  obtain ⟨e, he, hek⟩ := hej
  have hstay : (Instr.keyThatStays (((es[j]?).map (·.key)).getD (enc a)) (enc a)).run P w = .ok (enc a) w := by
   rw [he]
   simp [Instr.keyThatStays, hek, hk.bits _ _ hj1]
  have hs := MapKept.run_setObj_map (P := P) (.map (es.modify j fun e => { e with key := enc a, val := v }) c) hb
  have hr : (execOp ac.eval (Oper.mk none (.mapUpdate t x y z) ty pos af g)).run P w = .ok .skip { w with heap := w.heap.setIfInBounds b (.map (es.modify j fun e => { e with key := enc a, val := v }) c) } := by
   simp only [execOp, f.eval hx, f.eval hy, f.eval hz, Instr.mapUpdate, Sem.run_bind, run_underlying ht, Result.andThen_ok, hg, hk.check, h1, Option.map_some, hstay, hs, Sem.run_pure]
  show (Oper.mk none (.mapUpdate t x y z) ty pos af g).wp P ac w Kk Q
  unfold Oper.wp
  rw [hr]
  have hmod : ∀ k, ((es.modify j fun e => { e with key := enc a, val := v }).toList)[k]? = (es.toList[k]?).map fun e => if j = k then { e with key := enc a, val := v } else e := fun k => by
   rw [Array.toList_modify, List.getElem?_modify]
   rfl
  have hborn : (es.modify j fun e => { e with key := enc a, val := v }).toList.map (·.born) = es.toList.map (·.born) := by
   apply List.ext_getElem?
   intro k
   rw [List.getElem?_map, List.getElem?_map, hmod, Option.map_map]
   congr 1
   funext e
   simp only [Function.comp_apply]
   split <;> rfl
  refine h ac _ f (hw'.setVMap ?_ (fun y hy => ?_) ?_)
  · apply List.ext_getElem?
    intro k
    rw [List.getElem?_map, hmod, List.getElem?_map]
    have hmk := congrArg (fun l => l[k]?) hm
    simp only [List.getElem?_map] at hmk
    by_cases hjk : j = k
    · subst hjk
      rw [List.getElem?_set_self hjl]
      rw [Array.getElem?_toList, he]
      simp
    · rw [List.getElem?_set_ne hjk, ← hmk, Option.map_map]
      congr 1
      funext e
      simp [hjk]
  · have : y.born ∈ (es.modify j fun e => { e with key := enc a, val := v }).toList.map (·.born) := List.mem_map_of_mem (f := (·.born)) hy
    rw [hborn] at this
    obtain ⟨e', he', hq⟩ := List.mem_map.1 this
    rw [← hq]
    exact hs1 e' he'
  · rw [hborn]
    exact hs2
end
end Go.SL

set_option maxRecDepth 10000
namespace Go.Proofs.YtmeegfamopaljaaGreatDoor
open Go Go.RowKit Go.SL
variable {G : Env → Prop}
abbrev ef (e : Int) : Value := if e = 0 then .nilIface else .iface 48 (.int .i64 e)
abbrev bH (s : ByteArray) : Value := .string s
theorem hK : KeyK Tryz.prog 9 ByteArray bH := Cm (by kernel_rfl)
def dt (P : List (Nat × ByteArray)) : HP := HP.all (P.map fun c => blk c.1 9 #[bH c.2])
inductive Names (P : List (Nat × ByteArray)) : List (ByteArray × Nat) → FK.mU → Prop where
 | nil : Names P [] []
 | cons {M : List (ByteArray × Nat)} {fs : FK.mU} {n s : ByteArray} {b : Nat} (h : (b, s) ∈ P) (t : Names P M fs) : Names P ((n, b) :: M) ((n, s) :: fs)
theorem Names.mono {P P' : List (Nat × ByteArray)} (h : ∀ c ∈ P, c ∈ P') : ∀ {M : List (ByteArray × Nat)} {fs : FK.mU}, Names P M fs → Names P' M fs
 | _, _, .nil => .nil
 | _, _, .cons a t => .cons (h _ a) (t.mono h)
theorem Names.get {P : List (Nat × ByteArray)} (n : ByteArray) : ∀ {M : List (ByteArray × Nat)} {fs : FK.mU}, Names P M fs → (FK.dO M n = none ∧ FK.dO fs n = none) ∨ ∃ b s, FK.dO M n = some b ∧ FK.dO fs n = some s ∧ (b, s) ∈ P
 | _, _, .nil => .inl ⟨rfl, rfl⟩
 | _, _, .cons (M := M) (fs := fs) (n := k) (s := s) (b := b) a t => by
  have ih := t.get n
  unfold FK.dO at ih ⊢
  rw [List.find?_cons, List.find?_cons]
  cases hk : k == n with
  | true => exact .inr ⟨b, s, by simp, by simp, a⟩
  | false => exact ih
theorem Names.idx {P : List (Nat × ByteArray)} (n : ByteArray) : ∀ {M : List (ByteArray × Nat)} {fs : FK.mU}, Names P M fs → M.findIdx? (·.1 == n) = fs.findIdx? (·.1 == n)
 | _, _, .nil => rfl
 | _, _, .cons _ t => by
  rw [List.findIdx?_cons, List.findIdx?_cons, t.idx n]
theorem Names.set {P : List (Nat × ByteArray)} {n s : ByteArray} {b : Nat} (h : (b, s) ∈ P) : ∀ {M : List (ByteArray × Nat)} {fs : FK.mU} (j : Nat), Names P M fs → Names P (M.set j (n, b)) (fs.set j (n, s))
 | _, _, _, .nil => .nil
 | _, _, 0, .cons _ t => .cons h t
 | _, _, j + 1, .cons a t => .cons a (t.set h j)
theorem Names.snoc {P : List (Nat × ByteArray)} {n s : ByteArray} {b : Nat} (h : (b, s) ∈ P) : ∀ {M : List (ByteArray × Nat)} {fs : FK.mU}, Names P M fs → Names P (M ++ [(n, b)]) (fs ++ [(n, s)])
 | _, _, .nil => .cons h .nil
 | _, _, .cons a t => .cons a (t.snoc h)
theorem Names.put {P : List (Nat × ByteArray)} {n s : ByteArray} {b : Nat} {M : List (ByteArray × Nat)} {fs : FK.mU} (t : Names P M fs) (h : (b, s) ∈ P) : Names P (FK.fQ M n b) (FK.fQ fs n s) := by
 unfold FK.fQ
 rw [t.idx n]
 cases fs.findIdx? (·.1 == n) with
 | none => exact t.snoc h
 | some j => exact t.set h j
theorem Names.del {P : List (Nat × ByteArray)} (n : ByteArray) : ∀ {M : List (ByteArray × Nat)} {fs : FK.mU}, Names P M fs → Names P (M.eraseP (·.1 == n)) (fs.eraseP (·.1 == n))
 | _, _, .nil => .nil
 | _, _, .cons (n := k) a t => by
  rw [List.eraseP_cons, List.eraseP_cons]
  cases k == n with
  | true => exact t
  | false => exact .cons a (t.del n)
abbrev cQ (M : List (ByteArray × Nat)) : List (ByteArray × Value) := M.map fun x => (x.1, aO x.2)
def aX (mb : Nat) (P : List (Nat × ByteArray)) (fs : FK.mU) : HP := HP.ex fun M : List (ByteArray × Nat) => HP.all [HP.pure (Names P M fs), bP bH mb (cQ M)]
abbrev kx (o : FK.DOp) : List Value := [.int .i64 o.kind, bH o.name, bH o.data]
abbrev fx (l : List FK.DOp) : List Value := l.flatMap kx
theorem iO (M : List (ByteArray × Nat)) (n : ByteArray) : cI (cQ M) n = (FK.dO M n).map aO := by
 unfold cI FK.dO
 rw [List.find?_map]
 show Option.map _ (Option.map _ (M.find? (·.1 == n))) = _
 cases M.find? (·.1 == n) <;> rfl
theorem rC (M : List (ByteArray × Nat)) (n : ByteArray) (b : Nat) : FK.fQ (cQ M) n (aO b) = cQ (FK.fQ M n b) := FK.xe M (fun b => aO b) n b
theorem yY (M : List (ByteArray × Nat)) (n : ByteArray) : (cQ M).eraseP (·.1 == n) = cQ (M.eraseP (·.1 == n)) := by
 unfold cQ
 rw [List.eraseP_map]
 rfl
section
variable {E : Env} {l r : List HP}
section
variable {P : List (Nat × ByteArray)} {M : List (ByteArray × Nat)} {s : ByteArray} {fs : FK.mU} {b mb : Nat}
theorem rD (h : (b, s) ∈ P) (S : Sel (dt P) l r) : ∀ w, Holds E w l → bK ⟨b, 0, none⟩ (bH s) w := fun w hw => by
 obtain ⟨F1, _, _, _, _, hp, _⟩ := (hw.sel S).star
 have hp' : Star w (P.map fun c : Nat × ByteArray => blk c.1 9 #[bH c.2]) F1 := hp
 have h2 : (blk b 9 #[bH s]).sat w F1 := Star.mem hp' (List.mem_map.2 ⟨(b, s), h, rfl⟩)
 have := h2.2
 simp [bK, World.cell?, this]
theorem vd : Ent (blk b 9 #[bH s] :: dt P :: r) (dt ((b, s) :: P) :: r) := by
 refine (Ent.cons (Ent.unall (m := P.map fun c => blk c.1 9 #[bH c.2]))).trans ?_
 exact Ent.all (m := ((b, s) :: P).map fun c => blk c.1 9 #[bH c.2])
theorem bV (h : Names P M fs) : Ent (bP bH mb (cQ M) :: r) (aX mb P fs :: r) :=
 (Ent.pure h).trans ((Ent.all (m := [HP.pure (Names P M fs), bP bH mb (cQ M)])).trans (Ent.ex (f := fun M : List (ByteArray × Nat) => HP.all [HP.pure (Names P M fs), bP bH mb (cQ M)]) M))
theorem jB {n : ByteArray} (h : Names P M fs) : Ent (bP bH mb (FK.fQ (cQ M) n (aO b)) :: blk b 9 #[bH s] :: dt P :: r) (aX mb ((b, s) :: P) (FK.fQ fs n s) :: dt ((b, s) :: P) :: r) := by
 rw [rC]
 exact (Ent.cons vd).trans (bV ((h.mono fun c hc => .tail _ hc).put (.head _)))
theorem iJ {P' : List (Nat × ByteArray)} (h : ∀ c ∈ P, c ∈ P') : Ent (aX mb P fs :: r) (aX mb P' fs :: r) := fun w F ⟨F1, F2, h1, h2, hd, ⟨M, hp⟩, hl⟩ => by
 have hn : Names P M fs := Star.mem (p := HP.pure (Names P M fs)) (l := [HP.pure (Names P M fs), bP bH mb (cQ M)]) hp (by simp)
 obtain ⟨G1, G2, g1, g2, gd, _, g4⟩ := hp
 exact ⟨F1, F2, h1, h2, hd, ⟨M, G1, G2, g1, g2, gd, hn.mono h, g4⟩, hl⟩
end
end
theorem pV {P : Program} {ts : List (Nat × Value)} {t t' : TypeId} {x y : Operand} {a b : ByteArray} (hx : ev ts x = some (.string a)) (hy : ev ts y = some (.string b)) (hl : a.size + b.size ≤ 9223372036854775807) : Ev P ts (.binOp .add t x y t') (.string (a ++ b)) Any := by
 intro ac w _ _ _ _ _ kn _
 refine dm (kn.eval hx) (kn.eval hy) (by simp [eqGuard]) ?_
 have : ¬ (((a.size + b.size : Nat) : Int) > IntKind.i64.max) := by
  rw [show IntKind.i64.max = 9223372036854775807 from rfl]
  omega
 simp only [binOp, Op.stringOp]
 rw [if_neg this]
 rfl
structure DA where
 md : Nat
 mn : Nat
 pv : Value
 P : List (Nat × ByteArray)
abbrev ff (q : DA) (σ : FK.Dsk) : Array Value := #[.map (some q.md), .map (some q.mn), q.pv, .int .i64 σ.left, .int .i64 σ.full, .bool σ.down]
abbrev yb (d : Nat) (q : DA) (σ : FK.Dsk) : List HP := [blk d 131 (ff q σ), aX q.md q.P σ.dur, aX q.mn q.P σ.now, dt q.P, row 211 3 q.pv σ.pend.length (fx σ.pend)]
def ak (d : Nat) (σ : FK.Dsk) : HP := HP.ex fun q : DA => HP.all (yb d q σ)
abbrev kD (d : Nat) (q : DA) (σ : FK.Dsk) (r : List HP) : List HP := blk d 131 (ff q σ) :: aX q.md q.P σ.dur :: aX q.mn q.P σ.now :: dt q.P :: row 211 3 q.pv σ.pend.length (fx σ.pend) :: r
theorem bL {d : Nat} (q : DA) (σ : FK.Dsk) {r : List HP} : Ent (yb d q σ ++ r) (ak d σ :: r) := Ent.all.trans (Ent.ex (f := fun q : DA => HP.all (yb d q σ)) q)
theorem mt {d : Nat} {σ : FK.Dsk} : Does Tryz.prog G 335 [aO d].toArray [ak d σ] fun v m => v = ef σ.writes.2 ∧ m = [ak d σ.writes.1] := by
 obtain ⟨dur, now, pend, left, full, down⟩ := σ
 refine Does.body Tryz.func335 Z Z fun E fr hE => ?_
 refine ai ?_
 refine At.ex .head fun q => bq ?_
 refine At.ent (l' := kD d q ⟨dur, now, pend, left, full, down⟩ fr) (Ent.refl _) ?_
 refine At.seq (At.region (L.as Z Z (L.nil (At.then (At.seq (At.seq (At.region (L.mv Z Z (aR Z Z (aI 5 Z Z Z (L.bool Z (aa Z Z) (ag Z) fun c6 e6 => (L.mv Z Z ?_))))))))))))
 refine nu c6 (by rfl) ?_
 refine L.g Z Z (fun _ => rfl) (ae Z) (fun _ _ => trivial) ?_
 refine nu c6 (by rfl) ?_
 refine L.g Z Z (fun _ => rfl) (am Z) (fun _ _ => trivial) ?_
 refine nu c6 (by rfl) ?_
 refine L.g Z Z (fun _ => rfl) (ab (off := 3) Z Z) (fun _ _ => trivial) ?_
 refine nu c6 (by rfl) ?_
 refine L.g Z Z (fun _ => rfl) (aa Z Z) (ag Z) ?_
 refine nu c6 (by rfl) ?_
 refine L.g Z Z (fun _ => rfl) (aH Z Z Z) (fun _ _ => trivial) ?_
 refine L.bool Z (xv Z Z Z) (fun _ _ => trivial) fun c13 e13 => (L.nil (At.then ?_))
 refine fG Z (fun h13 => ?_) (fun h13 => ?_)
 ·
  have hc : down = true ∨ left = 0 := by rw [e13, e6] at h13; simpa using h13
  have hw : FK.Dsk.writes ⟨dur, now, pend, left, full, down⟩ = (⟨dur, now, pend, left, full, true⟩, 11) := by unfold FK.Dsk.writes; rw [if_pos hc]
  rw [hw]
  refine At.seq (At.region (L.mv Z Z (aR Z Z (aI 5 Z Z Z ?_))))
  refine L.st Z Z Z Z (by first | decide | simp | (simp; omega)) ?_
  exact L.nil (At.then (At.seq (At.region (L.pure Z (cO Z Z Z) (L.as Z Z (L.nil (At.then (At.ret (aG (aA [_] rfl Z ⟨rfl, rfl⟩ ((bL (d := d) q ⟨dur, now, pend, left, full, true⟩))))))))))))
 ·
  have hc : ¬ (down = true ∨ left = 0) := by rw [e13, e6] at h13; simpa using h13
  refine At.skip (At.then (At.seq (At.region (L.mv Z Z (aR Z Z (aI 3 Z Z Z (bd Z Z Z Z (L.pure Z (eu Z Z Z) (aR Z Z (aI 3 Z Z Z ?_))))))))))
  refine L.st Z Z Z Z (by first | decide | simp | (simp; omega)) ?_
  refine L.nil (At.then (At.seq (At.seq (At.region (L.mv Z Z (aR Z Z (aI 4 Z Z Z (bd Z Z Z Z (L.pure Z (aH Z Z Z) (L.nil (At.then ?_)))))))))))
  refine aE Z (fun c29 => ?_) (fun c29 => ?_)
  ·
   have hw : FK.Dsk.writes ⟨dur, now, pend, left, full, down⟩ = (⟨dur, now, pend, IntKind.i64.wrap (left - 1), -1, down⟩, 10) := by unfold FK.Dsk.writes; rw [if_neg hc, if_pos c29]
   rw [hw]
   refine At.seq (At.region (L.mv Z Z (aR Z Z (aI 4 Z Z Z ?_))))
   refine L.st Z Z Z Z (by first | decide | simp | (simp; omega)) ?_
   exact L.nil (At.then (At.seq (At.region (L.pure Z (cO Z Z Z) (L.as Z Z (L.nil (At.then (At.ret (aG (aA [_] rfl Z ⟨rfl, rfl⟩ ((bL (d := d) q ⟨dur, now, pend, IntKind.i64.wrap (left - 1), -1, down⟩))))))))))))
  ·
   have hw : FK.Dsk.writes ⟨dur, now, pend, left, full, down⟩ = (⟨dur, now, pend, IntKind.i64.wrap (left - 1), IntKind.i64.wrap (full - 1), down⟩, 0) := by unfold FK.Dsk.writes; rw [if_neg hc, if_neg c29]
   rw [hw]
   refine At.skip (At.then (At.seq (At.region (L.mv Z Z (aR Z Z (aI 4 Z Z Z (bd Z Z Z Z (L.pure Z (eu Z Z Z) (aR Z Z (aI 4 Z Z Z ?_))))))))))
   refine L.st Z Z Z Z (by first | decide | simp | (simp; omega)) ?_
   exact L.nil (At.then (At.seq (At.region (L.as Z Z (L.nil (At.then (At.ret (aA [_] rfl Z ⟨rfl, rfl⟩ ((bL (d := d) q ⟨dur, now, pend, IntKind.i64.wrap (left - 1), IntKind.i64.wrap (full - 1), down⟩))))))))))
theorem qI {mb : Nat} {P : List (Nat × ByteArray)} {fs : FK.mU} {o : FK.DOp} (hsz : o.kind = 2 → ∀ w, FK.dO fs o.name = some w → w.size + o.data.size ≤ 9223372036854775807) : Does Tryz.prog G 131 [.map (some mb), .agg (kx o).toArray].toArray [aX mb P fs, dt P] fun v m => v = .tuple #[] ∧ ∃ P', (∀ c ∈ P, c ∈ P') ∧ m = [aX mb P' (FK.dh fs o), dt P'] := by
 have hmono : ∀ b s, ∀ c ∈ P, c ∈ (b, s) :: P := fun b s c hc => .tail _ hc
 refine Does.body Tryz.func131 Z Z fun E fr hE => ?_
 refine aJ ?_
 refine At.ex .head fun M => bq ?_
 refine At.ent (l' := HP.pure (Names P M fs) :: bP bH mb (cQ M) :: dt P :: fr) (Ent.refl _) ?_
 refine At.pure .head fun hN => (At.seq (At.region (L.op Z (cb Z Z fun b3 => (L.nil (At.then (At.seq (At.region (aI 2 Z Z Z (bd Z Z Z Z (L.op Z (aN (z := .string ⟨#[]⟩) Z Z fun b4 => ?_))))))))))))
 refine L.st Z Z Z Z (by first | decide | simp | (simp; omega)) ?_
 refine L.nil (At.then (At.seq (aD b4 #[bH o.data] rfl (At.region (aI 0 Z Z Z (bd Z Z Z Z (L.nil (At.then (At.block (At.seq (At.region (L.pure Z (aH Z Z Z) (L.as Z Z (L.nil (At.then ?_)))))))))))))))
 refine aE Z (fun c11 => ?_) (fun c11 => ?_)
 ·
  have hdo : FK.dh fs o = FK.fQ fs o.name (match FK.dO fs o.name with | some w => w ++ o.data | none => o.data) := by unfold FK.dh; rw [if_pos c11]; first | done | rfl
  rw [hdo]
  refine At.seq (At.seq ?_)
  by_cases HG : ∃ b s, FK.dO M o.name = some b ∧ FK.dO fs o.name = some s ∧ (b, s) ∈ P
  ·
   obtain ⟨ob, os, hM, hF, hP⟩ := HG
   rw [hF]
   refine At.region (L.mv Z Z (aI 1 Z Z Z (bd Z Z Z Z (L.val Z (i6 (a := o.name) (v := aO ob) Z hK Z Z (by rw [iO, hM]; rfl)) (fB (b := mb) (m := cQ M) (.tail (.tail .head))) (L.mv Z Z (L.ex Z Z Z (L.ex Z Z Z (L.as Z Z (L.as Z Z (L.nil (At.then (At.seq (At.region (L.mv Z Z (L.nil (At.then (aQ Z (Dr.start Z (dP 0 Z Z (ae Z) ?_)))))))))))))))))))
   refine dP 1 Z Z (am Z) (dL 2 Z Z (aa (v := bH os) Z Z) (rD hP (.tail (.tail (.tail .head)))) (dL 3 Z Z (aa Z Z) (ag Z) (dP 4 Z Z (pV Z Z (hsz c11 os hF)) ?_)))
   refine dR 5 Z Z (bB Z Z Z Z Z (by first | decide | simp | (simp; omega)) ?_)
   exact dK [false, false] Kept.nil (dE (At.then (aD b4 #[bH (os ++ o.data)] rfl (At.region (L.mv Z Z (aI 1 Z Z Z (bd Z Z Z Z (L.op Z (qf Z Z hK Z Z Z (.tail (.tail .head)) (L.nil (an (bm [_, _] rfl ⟨rfl, (b4, os ++ o.data) :: P, hmono _ _, rfl⟩ ((cc .head .head (.tail .head)).trans ((jB hN).trans (Ent.cons (Ent.cons Ent.drop))))))))))))))))
  ·
   obtain ⟨hM, hF⟩ : FK.dO M o.name = none ∧ FK.dO fs o.name = none := by rcases hN.get o.name with h | h; exact h; exact absurd h HG
   rw [hF]
   refine At.region (L.mv Z Z (aI 1 Z Z Z (bd Z Z Z Z (L.val Z (km (m := cQ M) (a := o.name) Z hK Z Z Z (by rw [iO, hM]; rfl)) (fB (b := mb) (m := cQ M) (.tail (.tail .head))) (L.mv Z Z (L.ex Z Z Z (L.ex Z Z Z (L.as Z Z (L.as Z Z (L.nil (At.then (At.seq (At.region (L.mv Z Z (L.nil (At.then (aj Z (At.skip (At.then ?_)))))))))))))))))))
   exact At.region (L.mv Z Z (aI 1 Z Z Z (bd Z Z Z Z (L.op Z (qf Z Z hK Z Z Z (.tail (.tail .head)) (L.nil (an (bm [_, _] rfl ⟨rfl, (b4, o.data) :: P, hmono _ _, rfl⟩ ((cc .head .head (.tail .head)).trans ((jB hN).trans (Ent.cons (Ent.cons Ent.drop))))))))))))
 ·
  refine At.seq (At.region (L.pure Z (aH Z Z Z) (L.as Z Z (L.nil (At.then ?_)))))
  refine aE Z (fun c29 => ?_) (fun c29 => ?_)
  ·
   have hdo : FK.dh fs o = FK.fQ fs o.name o.data := by unfold FK.dh; rw [if_neg c11, if_pos c29]
   rw [hdo]
   exact At.region (L.mv Z Z (aI 1 Z Z Z (bd Z Z Z Z (L.op Z (qf Z Z hK Z Z Z (.tail (.tail .head)) (L.nil (an (bm [_, _] rfl ⟨rfl, (b4, o.data) :: P, hmono _ _, rfl⟩ ((cc .head .head (.tail .head)).trans ((jB hN).trans (Ent.cons (Ent.cons Ent.drop))))))))))))
  ·
   refine At.seq (At.region (L.pure Z (aH Z Z Z) (L.as Z Z (L.nil (At.then ?_)))))
   refine aE Z (fun c34 => ?_) (fun c34 => ?_)
   ·
    have hdo : FK.dh fs o = fs.eraseP (·.1 == o.name) := by unfold FK.dh; rw [if_neg c11, if_neg c29, if_pos c34]
    rw [hdo]
    refine At.region (L.mv Z Z (aI 1 Z Z Z (bd Z Z Z Z (L.op Z (qh Z Z hK Z Z (.tail (.tail .head)) (L.nil (an ?_)))))))
    rw [yY]
    exact bm [_, _] rfl ⟨rfl, P, fun _ h => h, rfl⟩ ((aP .head (.tail (.tail .head))).trans ((bV (hN.del o.name)).trans (Ent.cons (Ent.cons (Ent.drop.trans Ent.drop)))))
   ·
    have hdo : FK.dh fs o = fs := by unfold FK.dh; rw [if_neg c11, if_neg c29, if_neg c34]
    rw [hdo]
    refine At.skip (an ?_)
    exact bm [_, _] rfl ⟨rfl, P, fun _ h => h, rfl⟩ ((aP (.tail (.tail .head)) (.tail (.tail .head))).trans ((bV hN).trans (Ent.cons (Ent.cons (Ent.drop.trans Ent.drop)))))
end Go.Proofs.YtmeegfamopaljaaGreatDoor

namespace Go.SL
open Go Go.RowKit
section
variable {P : Program} {E : Env} {n : Nat} {D : List Deferred} {ts : List (Nat × Value)} {l : List HP} {ops : Array Oper} {Q : Exit → Act → World → Prop} {rest : List Oper} {i : Nat} {ty : TypeId} {pos : String} {af : Array Edge} {g : Option (Nat × Bool)}
def v8 (A : Option Addr) (bs : List UInt8) (w : World) : Prop := (A = none → bs = []) ∧ ∀ b o, A = some ⟨b, o, none⟩ → ∀ j (hj : j < bs.length), w.cell? ⟨b, o + j, none⟩ = some (.int .u8 (bs[j].toNat : Int))
theorem Bc {src dst e : TypeId} {x : Operand} {A : Option Addr} {c : Nat} {bs : List UInt8} (hs : P.underlying src = some (.slice e)) (he : P.underlying e = some (.int .u8)) (hd : P.underlying dst = some .string) (hA : ∀ ad, A = some ad → ∃ b o, ad = ⟨b, o, none⟩)
 (hx : ev ts x = some (.slice A bs.length c)) : Ev P ts (.convert src dst x) (.string ⟨bs.toArray⟩) (v8 A bs) := by
 intro a w _ _ _ _ _ kn hφ
 cases A with
 | none =>
  obtain rfl := hφ.1 rfl
  have hr : (convert src dst (.slice none ([] : List UInt8).length c)).run P w = .ok (.string .empty) w := by
   rw [run_convert_bytes_string w src dst e none _ c hs he hd]
   simp [Conv.bytesToString]
  simp only [execOp, kn.eval hx, Sem.run_bind, hr, Result.andThen_ok, Sem.run_pure]
  rfl
 | some ad =>
  obtain ⟨b, o, rfl⟩ := hA ad rfl
  have hr := run_convert_bytes_back (P := P) w src dst e ⟨b, o, none⟩ c bs hs he hd fun j hj => by rw [add_plain]; exact hφ.2 b o rfl j hj
  simp only [execOp, kn.eval hx, Sem.run_bind, hr, Result.andThen_ok, Sem.run_pure]
theorem pS {t t' : TypeId} {x y : Operand} {a b : ByteArray} {r : Bool} (_ht : P.underlying t = some .string) (hx : ev ts x = some (.string a)) (hy : ev ts y = some (.string b)) (hr : (!(a.toList == b.toList)) = r) : Ev P ts (.binOp .neq t x y t') (.bool r) Any := by
 intro ac w _ _ _ _ _ kn _
 subst hr
 exact dm (kn.eval hx) (kn.eval hy) (by simp [eqGuard]) (by simp [binOp, Op.stringOp])
end
end Go.SL

namespace Go.Proofs.YtmeegfamopaljaaGreatDoor
open Go Go.RowKit Go.SL
variable {G : Env → Prop}
theorem tM : e7 Tryz.prog 211 (.agg #[.int .i64 0, .string .empty, .string .empty]) 3 40 := by unfold e7; kernel_rfl
theorem qE (o : FK.DOp) (t : Nat) : Instr.fill (fun i => some (i * 3, 3)) (Array.map (fun x => ((.agg #[.int .i64 0, .string .empty, .string .empty] : Value)).cells[x % ((.agg #[.int .i64 0, .string .empty, .string .empty] : Value)).cells.size]!) (Array.range (1 * 3))) ((List.map (fun x => x.fst) [((0 : Nat), Operand.tmp t)]).zip [.agg (kx o).toArray]) = some (kx o).toArray := by
 have e1 : Array.range (1 * 3) = #[0, 1, 2] := rfl
 rw [e1]
 simp [Instr.fill, Value.cells]
theorem l5 (l : List FK.DOp) (o : FK.DOp) : fx (l ++ [o]) = fx l ++ kx o := by
 unfold fx
 rw [List.flatMap_append]
 rfl
set_option maxRecDepth 10000 in
set_option maxHeartbeats 1000000 in
theorem wu {d : Nat} {σ : FK.Dsk} {o : FK.DOp} (hsz : FK.kW σ.now + o.data.size ≤ 9223372036854775807) (hp : σ.pend.length ≤ 1099511627776) : Does Tryz.prog G 334 [aO d, .agg (kx o).toArray].toArray [ak d σ] fun v m => v = ef (σ.tell o).2 ∧ m = [ak d (σ.tell o).1] := by
 have hsz' : FK.kW σ.writes.1.now + o.data.size ≤ 9223372036854775807 := by
  have : σ.writes.1.now = σ.now := by unfold FK.Dsk.writes; split; rfl; split <;> rfl
  rw [this]; exact hsz
 have hp' : σ.writes.1.pend.length ≤ 1099511627776 := by
  have : σ.writes.1.pend = σ.pend := by unfold FK.Dsk.writes; split; rfl; split <;> rfl
  rw [this]; exact hp
 have hcode : σ.writes.2 = 0 ∨ σ.writes.2 = 10 ∨ σ.writes.2 = 11 := by unfold FK.Dsk.writes; split; exact .inr (.inr rfl); split; exact .inr (.inl rfl); exact .inl rfl
 have htell : σ.tell o = if σ.writes.2 = 11 then ({ σ.writes.1 with pend := σ.writes.1.pend ++ [o] }, 11) else if σ.writes.2 ≠ 0 then σ.writes else if o.kind = 3 ∧ FK.dO σ.writes.1.now o.name = none then (σ.writes.1, 9) else ({ σ.writes.1 with now := FK.dh σ.writes.1.now o, pend := σ.writes.1.pend ++ [o] }, 0) := rfl
 clear hsz hp
 refine Does.body Tryz.func334 Z Z fun E fr hE => ?_
 refine ai (At.seq (At.region (L.op Z (cb Z Z fun b3 => (L.as Z Z (L.nil (At.then (At.seq (At.seq (At.region (L.mv Z Z ?_)))))))))))
 refine L.op Z (ah Z Z Z hE mt (Ent.sel (.tail (.head))) ?_)
 rintro v m ⟨hv, rfl⟩
 refine ai ?_
 generalize σ.writes = ω at *
 obtain ⟨⟨dur, now, pend, left, full, down⟩, e⟩ := ω
 simp only at hsz' hp' hcode hv ⊢
 refine L.as Z Z (L.nil (At.then (At.seq ?_)))
 by_cases HE : e = 0
 ·
  subst HE
  subst hv
  refine At.region (L.mv Z Z (L.pure Z (co Z Z) ?_))
  refine At.ex .head fun q => bq ?_
  refine At.ent (l' := kD d q ⟨dur, now, pend, left, full, down⟩ (blk b3 211 (kx o).toArray :: fr)) (Ent.refl _) ?_
  refine At.ex (.tail (.tail .head)) fun M => bq ?_
  refine At.ent (l' := HP.pure (Names q.P M now) :: bP bH q.mn (cQ M) :: blk d 131 (ff q ⟨dur, now, pend, left, full, down⟩) :: aX q.md q.P dur :: dt q.P :: row 211 3 q.pv pend.length (fx pend) :: blk b3 211 (kx o).toArray :: fr) (Ent.refl _) ?_
  refine At.pure .head fun hN => (L.nil (At.then (aj Z (At.skip (At.then (At.seq (At.seq ?_)))))))
  by_cases HG : ∃ b s, FK.dO M o.name = some b ∧ FK.dO now o.name = some s ∧ (b, s) ∈ q.P
  ·
   obtain ⟨ob, os, hM, hF, hP⟩ := HG
   refine Dr.start Z (dP 0 Z Z (ae Z) (dP 1 Z Z (am Z) (dP 2 Z Z (ab (off := 1) Z Z) (dL 3 Z Z (aa Z Z) (ag Z) (dP 4 Z Z (ab (off := 1) Z Z) (dL 5 Z Z (aa Z Z) (ag Z) (dL 6 Z Z (i6 (a := o.name) (v := aO ob) Z hK Z Z (by rw [iO, hM]; rfl)) (fB .head) (dP 7 Z Z (ae Z) (dP 8 Z Z (bc Z Z) (dP 9 Z Z (bc Z Z) (dP 10 Z Z (ax Z) (dP 11 Z Z (ax Z) (dE (At.then (At.seq (At.region (L.mv Z Z (L.pure Z (cg Z Z) (L.mv Z Z ?_)))))))))))))))))))
   refine L.off Z Z Z Z Z Z (L.off Z Z Z Z Z Z (L.off Z Z Z Z Z Z (L.pure Z (aq Z Z Z) (L.nil (At.then (aj Z (At.skip (At.then (At.seq ?_)))))))))
   refine At.ent (l' := aX q.mn q.P now :: dt q.P :: blk d 131 (ff q ⟨dur, now, pend, left, full, down⟩) :: aX q.md q.P dur :: row 211 3 q.pv pend.length (fx pend) :: blk b3 211 (kx o).toArray :: fr) ((aP .head (.tail (.tail .head))).trans ((Ent.cons (Ent.refl _)).trans (bV hN))) ?_
   refine Dr.start Z (dP 0 Z Z (ae Z) (dP 1 Z Z (am Z) (dP 2 Z Z (ab (off := 1) Z Z) (dL 3 Z Z (aa Z Z) (ag Z) (dL 4 Z Z (ao (vs := kx o) Z Z Z Z) (aw Z) ?_)))))
   refine dR 5 Z Z (ah Z Z Z hE (qI (P := q.P) (fs := now) (o := o) (fun _ w hw => by have := FK.qq hw; omega)) (Ent.refl _) ?_)
   rintro v m ⟨rfl, P', hP', rfl⟩
   refine aJ (dK [false, false] Kept.nil (dE (At.then (At.seq ?_))))
   refine At.ent (l' := aX q.md P' dur :: aX q.mn P' (FK.dh now o) :: dt P' :: blk d 131 (ff q ⟨dur, now, pend, left, full, down⟩) :: row 211 3 q.pv pend.length (fx pend) :: blk b3 211 (kx o).toArray :: fr) ((Ent.sel (.tail (.tail (.tail .head)))).trans (iJ hP')) ?_
   refine Dr.start Z (dP 0 Z Z (ae Z) (dP 1 Z Z (ae Z) (dP 2 Z Z (am Z) (dP 3 Z Z (ab (off := 2) Z Z) (dL 4 Z Z (aa Z Z) (ag Z) (dL 5 Z Z (ao (vs := kx o) Z Z Z Z) (aw Z) ?_))))))
   refine dR 6 Z Z (dF (m := 1) (z := .agg #[.int .i64 0, .string .empty, .string .empty]) (size := 3) (ps := [(0, .tmp 55)]) (vs := [.agg (kx o).toArray]) (cs := (kx o).toArray) Z Z Z Z (by omega) (by omega) Z (qE _ _) fun b56 => ?_)
   refine dK [false, true] (Kept.cons (ag Z) Kept.nil) ?_
   refine dR 7 rfl rfl (cm rfl rfl tM rfl (by omega) rfl rfl (HasVal.sel (v := q.pv)) (news := kx o) rfl (fun h => by cases h) (fN (fun j u h => by simpa using h)) (by simp [Value.oneCell']) (by unfold maxLen; omega) (by omega) fun v57 hv57 => ?_)
   refine aC (HasVal.sel (v := v57)) ?_
   rintro A57 c57 rfl - - - - -
   refine dK [false] Kept.nil (dP 8 Z Z (am Z) (dP 9 Z Z (ab (off := 2) Z Z) ?_))
   refine dR 10 Z Z (bB Z Z Z Z Z (by first | decide | simp | (simp; omega)) ?_)
   refine aD d (ff ⟨q.md, q.mn, .slice A57 (pend.length + 1) c57, P'⟩ ⟨dur, FK.dh now o, pend ++ [o], left, full, down⟩) Z ?_
   refine At.ent (l' := ak d ⟨dur, FK.dh now o, pend ++ [o], left, full, down⟩ :: fr) ?_ ?_
   · refine Ent.trans ?_ (bL ⟨q.md, q.mn, .slice A57 (pend.length + 1) c57, P'⟩ ⟨dur, FK.dh now o, pend ++ [o], left, full, down⟩)
     show Ent _ (_ :: _ :: _ :: _ :: row 211 3 _ (pend ++ [o]).length (fx (pend ++ [o])) :: fr)
     rw [l5, List.length_append]
     exact al
   refine dK [] Kept.nil (dE (At.then (At.seq (At.region (L.as Z Z (L.nil (At.then (At.ret ?_))))))))
   have ht : σ.tell o = (⟨dur, FK.dh now o, pend ++ [o], left, full, down⟩, 0) := by rw [htell, if_neg (by simp), if_neg (by simp), if_neg (by rw [hF]; simp)]
   rw [ht]
   exact aA [_] rfl Z ⟨rfl, rfl⟩ (Ent.refl _)
  ·
   obtain ⟨hM, hF⟩ : FK.dO M o.name = none ∧ FK.dO now o.name = none := by rcases hN.get o.name with h | h; exact h; exact absurd h HG
   refine Dr.start Z (dP 0 Z Z (ae Z) (dP 1 Z Z (am Z) (dP 2 Z Z (ab (off := 1) Z Z) (dL 3 Z Z (aa Z Z) (ag Z) (dP 4 Z Z (ab (off := 1) Z Z) (dL 5 Z Z (aa Z Z) (ag Z) (dL 6 Z Z (km (m := cQ M) (a := o.name) Z hK Z Z Z (by rw [iO, hM]; rfl)) (fB .head) (dP 7 Z Z (ae Z) (dP 8 Z Z (bc Z Z) (dP 9 Z Z (bc Z Z) (dP 10 Z Z (ax Z) (dP 11 Z Z (ax Z) (dE (At.then (At.seq (At.region (L.mv Z Z (L.pure Z (cg Z Z) (L.mv Z Z ?_)))))))))))))))))))
   refine lT Z Z Z (ab (off := 0) Z Z) (lA Z Z Z (aa Z Z) (ag Z) (lT Z Z Z (aH Z Z Z) (L.pure Z (aq Z Z Z) (L.nil (At.then ?_)))))
   refine aE Z (fun c42 => ?_) (fun c42 => ?_)
   ·
    refine At.seq (At.region (L.pure Z (cO Z Z Z) (L.as Z Z (L.nil (At.then (At.ret (aG ?_)))))))
    have ht : σ.tell o = (⟨dur, now, pend, left, full, down⟩, 9) := by rw [htell, if_neg (by simp), if_neg (by simp), if_pos ⟨c42, hF⟩]
    rw [ht]
    refine aA [ak d ⟨dur, now, pend, left, full, down⟩] rfl Z ⟨rfl, rfl⟩ ?_
    refine Ent.trans ?_ (bL q ⟨dur, now, pend, left, full, down⟩)
    refine Ent.trans (bV hN) ?_
    show Ent _ (_ :: aX q.md q.P dur :: aX q.mn q.P now :: dt q.P :: _ :: fr)
    exact al
   ·
    refine At.skip (At.then (At.seq ?_))
    refine At.ent (l' := aX q.mn q.P now :: dt q.P :: blk d 131 (ff q ⟨dur, now, pend, left, full, down⟩) :: aX q.md q.P dur :: row 211 3 q.pv pend.length (fx pend) :: blk b3 211 (kx o).toArray :: fr) ((aP .head (.tail (.tail .head))).trans ((Ent.cons (Ent.refl _)).trans (bV hN))) ?_
    refine Dr.start Z (dP 0 Z Z (ae Z) (dP 1 Z Z (am Z) (dP 2 Z Z (ab (off := 1) Z Z) (dL 3 Z Z (aa Z Z) (ag Z) (dL 4 Z Z (ao (vs := kx o) Z Z Z Z) (aw Z) ?_)))))
    refine dR 5 Z Z (ah Z Z Z hE (qI (P := q.P) (fs := now) (o := o) (fun _ w hw => by have := FK.qq hw; omega)) (Ent.refl _) ?_)
    rintro v m ⟨rfl, P', hP', rfl⟩
    refine aJ (dK [false, false] Kept.nil (dE (At.then (At.seq ?_))))
    refine At.ent (l' := aX q.md P' dur :: aX q.mn P' (FK.dh now o) :: dt P' :: blk d 131 (ff q ⟨dur, now, pend, left, full, down⟩) :: row 211 3 q.pv pend.length (fx pend) :: blk b3 211 (kx o).toArray :: fr) ((Ent.sel (.tail (.tail (.tail .head)))).trans (iJ hP')) ?_
    refine Dr.start Z (dP 0 Z Z (ae Z) (dP 1 Z Z (ae Z) (dP 2 Z Z (am Z) (dP 3 Z Z (ab (off := 2) Z Z) (dL 4 Z Z (aa Z Z) (ag Z) (dL 5 Z Z (ao (vs := kx o) Z Z Z Z) (aw Z) ?_))))))
    refine dR 6 Z Z (dF (m := 1) (z := .agg #[.int .i64 0, .string .empty, .string .empty]) (size := 3) (ps := [(0, .tmp 55)]) (vs := [.agg (kx o).toArray]) (cs := (kx o).toArray) Z Z Z Z (by omega) (by omega) Z (qE _ _) fun b56 => ?_)
    refine dK [false, true] (Kept.cons (ag Z) Kept.nil) ?_
    refine dR 7 rfl rfl (cm rfl rfl tM rfl (by omega) rfl rfl (HasVal.sel (v := q.pv)) (news := kx o) rfl (fun h => by cases h) (fN (fun j u h => by simpa using h)) (by simp [Value.oneCell']) (by unfold maxLen; omega) (by omega) fun v57 hv57 => ?_)
    refine aC (HasVal.sel (v := v57)) ?_
    rintro A57 c57 rfl - - - - -
    refine dK [false] Kept.nil (dP 8 Z Z (am Z) (dP 9 Z Z (ab (off := 2) Z Z) ?_))
    refine dR 10 Z Z (bB Z Z Z Z Z (by first | decide | simp | (simp; omega)) ?_)
    refine aD d (ff ⟨q.md, q.mn, .slice A57 (pend.length + 1) c57, P'⟩ ⟨dur, FK.dh now o, pend ++ [o], left, full, down⟩) Z ?_
    refine At.ent (l' := ak d ⟨dur, FK.dh now o, pend ++ [o], left, full, down⟩ :: fr) ?_ ?_
    · refine Ent.trans ?_ (bL ⟨q.md, q.mn, .slice A57 (pend.length + 1) c57, P'⟩ ⟨dur, FK.dh now o, pend ++ [o], left, full, down⟩)
      show Ent _ (_ :: _ :: _ :: _ :: row 211 3 _ (pend ++ [o]).length (fx (pend ++ [o])) :: fr)
      rw [l5, List.length_append]
      exact al
    refine dK [] Kept.nil (dE (At.then (At.seq (At.region (L.as Z Z (L.nil (At.then (At.ret ?_))))))))
    have ht : σ.tell o = (⟨dur, FK.dh now o, pend ++ [o], left, full, down⟩, 0) := by rw [htell, if_neg (by simp), if_neg (by simp), if_neg (fun h => c42 h.1)]
    rw [ht]
    exact aA [_] rfl Z ⟨rfl, rfl⟩ (Ent.refl _)
 ·
  replace hv := hv.trans (if_neg HE)
  subst hv
  refine At.region (L.mv Z Z (L.pure Z (fv Z Z) (L.nil (At.then (aQ Z (At.seq (At.seq (At.region (L.mv Z Z (L.pure Z (cO Z Z Z) (L.pure Z (nT Z Z Z Z Z Z Z) (L.nil (At.then ?_)))))))))))))
  refine fG Z (fun c14 => ?_) (fun c14 => ?_)
  ·
   obtain rfl : e = 11 := by simpa using c14
   refine At.ex .head fun q => bq ?_
   refine At.ent (l' := kD d q ⟨dur, now, pend, left, full, down⟩ (blk b3 211 (kx o).toArray :: fr)) (Ent.refl _) ?_
   refine Dr.start Z (dP 0 Z Z (ae Z) (dP 1 Z Z (ae Z) (dP 2 Z Z (am Z) (dP 3 Z Z (ab (off := 2) Z Z) (dL 4 Z Z (aa Z Z) (ag Z) (dL 5 Z Z (ao (vs := kx o) Z Z Z Z) (aw Z) ?_))))))
   refine dR 6 Z Z (dF (m := 1) (z := .agg #[.int .i64 0, .string .empty, .string .empty]) (size := 3) (ps := [(0, .tmp 20)]) (vs := [.agg (kx o).toArray]) (cs := (kx o).toArray) Z Z Z Z (by omega) (by omega) Z (qE _ _) fun b21 => ?_)
   refine dK [false, true] (Kept.cons (ag Z) Kept.nil) ?_
   refine dR 7 rfl rfl (cm rfl rfl tM rfl (by omega) rfl rfl (HasVal.sel (v := q.pv)) (news := kx o) rfl (fun h => by cases h) (fN (fun j u h => by simpa using h)) (by simp [Value.oneCell']) (by unfold maxLen; show pend.length + 1 ≤ _; omega) (by show (pend.length + 1) * 40 ≤ _; omega) fun v22 hv22 => ?_)
   refine aC (HasVal.sel (v := v22)) ?_
   rintro A22 c22 rfl - - - - -
   refine dK [false] Kept.nil (dP 8 Z Z (am Z) (dP 9 Z Z (ab (off := 2) Z Z) ?_))
   refine dR 10 Z Z (bB Z Z Z Z Z (by first | decide | simp | (simp; omega)) ?_)
   refine aD d (ff ⟨q.md, q.mn, .slice A22 (pend.length + 1) c22, q.P⟩ ⟨dur, now, pend ++ [o], left, full, down⟩) Z ?_
   refine At.ent (l' := ak d ⟨dur, now, pend ++ [o], left, full, down⟩ :: fr) ?_ ?_
   · refine Ent.trans ?_ (bL ⟨q.md, q.mn, .slice A22 (pend.length + 1) c22, q.P⟩ ⟨dur, now, pend ++ [o], left, full, down⟩)
     show Ent _ (_ :: _ :: _ :: _ :: row 211 3 _ (pend ++ [o]).length (fx (pend ++ [o])) :: fr)
     rw [l5, List.length_append]
     exact al
   refine dK [] Kept.nil (dE (At.then (At.seq (At.region (L.mv Z Z (L.as Z Z (L.nil (At.then (At.ret (aG ?_))))))))))
   have ht : σ.tell o = (⟨dur, now, pend ++ [o], left, full, down⟩, 11) := by rw [htell, if_pos rfl]
   rw [ht]
   exact aA [_] rfl Z ⟨rfl, rfl⟩ (Ent.refl _)
  ·
   have hne : e ≠ 11 := fun h => by rw [h] at c14; exact absurd c14 (by decide)
   refine At.skip (At.then (At.seq (At.region (L.mv Z Z (L.as Z Z (L.nil (At.then (At.ret (aG ?_)))))))))
   have ht : σ.tell o = (⟨dur, now, pend, left, full, down⟩, e) := by rw [htell, if_neg hne, if_pos HE]
   rw [ht]
   exact aA [_] rfl Z ⟨(if_neg HE).symm, rfl⟩ (Ent.cons Ent.drop)
def dr (bs : List UInt8) : ByteArray := ⟨bs.toArray⟩
theorem jM (bs : List UInt8) : (dr bs).size = bs.length := by
 unfold dr
 show bs.toArray.size = _
 simp
theorem Bs {E : Env} {p : HP} {A : Option Addr} {bs : List UInt8} {l r : List HP} (h : Reads p A bs) (hA : A = none → bs = []) (s : Sel p l r) : ∀ w, Holds E w l → v8 A bs w := fun w hw => ⟨hA, fun _b _o hAb _j hj => h.at s hAb (List.getElem?_eq_getElem hj) w hw⟩
end Go.Proofs.YtmeegfamopaljaaGreatDoor

set_option maxRecDepth 10000
namespace Go.Proofs.YtmeegfamopaljaaGreatDoor
open Go Go.RowKit Go.SL
variable {G : Env → Prop}
section
variable {σ : FK.Dsk} {l : List FK.DOp} {bs : List UInt8} {name : ByteArray} {d : Nat} {o : FK.DOp} {u : Value}
theorem xE {kind : Int} (hsz : FK.kW σ.now + bs.length ≤ 9223372036854775807) (hp : σ.pend.length ≤ 1099511627776) (hl : bs.length ≤ 1099511627776) : Does Tryz.prog G 332 [aO d, .int .i64 kind, bH name, u].toArray [ak d σ, bO u bs] fun v m => v = ef (σ.tell ⟨kind, name, dr bs⟩).2 ∧ m = [ak d (σ.tell ⟨kind, name, dr bs⟩).1] := by
 refine Does.body Tryz.func332 Z Z fun E fr hE => ?_
 refine aJ (aC (HasVal.sel (v := u)) ?_)
 rintro A c rfl f1 f2 f3 f4 -
 have hform : bs ≠ [] → ∃ g, A = some ⟨g, 0, none⟩ := fun hne => by
  have hpos := List.length_pos_iff.2 hne
  cases A with
  | none => have := (f1 rfl).1; omega
  | some ad => obtain ⟨g, rfl⟩ := f2 ad rfl; exact ⟨g, rfl⟩
 have hA : A = none → bs = [] := fun h => by
  have := (f1 h).1
  exact List.eq_nil_of_length_eq_zero (by omega)
 refine At.seq (At.region (L.as Z Z (L.nil (At.then (At.seq (At.region (L.mv Z Z (L.mv Z Z (L.mv Z Z (L.mv Z Z ?_))))))))))
 refine L.val rfl (Bc (bs := bs) rfl rfl rfl (fun ad h => by obtain ⟨g, rfl⟩ := f2 ad h; exact ⟨g, 0, rfl⟩) rfl) (Bs (Reads.row (c := c) hform) hA (.tail .head)) ?_
 refine L.pure Z (bn (cs := (kx ⟨kind, name, dr bs⟩).toArray) Z Z Z Z Z) ?_
 refine L.op Z (ah Z Z Z hE (wu (o := ⟨kind, name, dr bs⟩) (by rw [jM]; exact hsz) hp) (Ent.refl _) ?_)
 rintro v m ⟨hv, rfl⟩
 refine ai (L.as Z Z (L.nil (At.then (At.seq (At.seq (At.region (L.mv Z Z (L.pure Z (aM Z Z) (L.mv Z Z (L.nil (At.then (At.block ?_))))))))))))
 refine bk (X := Nat × List Value) (fun x => [(20, .int .i64 x.1), (19, .int .i64 bs.length), (3, .slice A bs.length c), (9, v)]) (fun x => row 5 1 (.slice A bs.length c) bs.length x.2 :: ak d (σ.tell ⟨kind, name, dr bs⟩).1 :: fr) (fun x => x.1 ≤ bs.length) (fun x => bs.length - x.1) (0, bR bs) (Nat.zero_le _) ⟨rfl, rfl, rfl, rfl, trivial⟩ (Ent.sel (.tail .head)) ?_
 rintro ⟨k, ys⟩ hk
 simp only at hk ⊢
 refine At.seq (At.region (L.pure Z (bl Z Z Z) (L.nil (At.then (At.seq ?_)))))
 refine aE Z (fun c21 => ?_) (fun c21 => ?_)
 ·
  have hlt : k < bs.length := by omega
  obtain ⟨g, rfl⟩ := hform (by rintro rfl; simp at hlt)
  refine At.skip (At.then (At.seq (At.block (At.seq (At.region (L.mv Z Z (L.as Z Z (L.nil (At.then (At.region (L.mv Z Z (L.mv Z Z (L.pure Z (aT (z := 1) Z Z Z Z hlt) ?_)))))))))))))
  refine L.op Z (dZ .head Z Z Z Z (by omega) ?_)
  refine L.nil (an (At.then (At.region (L.pure Z (aS (r := ((k + 1 : Nat) : Int)) Z Z (by rw [dd (by omega)]; omega)) (L.mv Z Z (L.nil ?_))))))
  exact At.round (k + 1, _) (by simp only; omega) (by simp only; omega) ⟨rfl, rfl, rfl, rfl, trivial⟩ (Ent.refl _)
 ·
  exact At.exit (az (ay (ar (At.then (At.seq (At.region (L.mv Z Z (L.as Z Z (L.nil (At.then (At.ret (aA [_] rfl Z ⟨hv, rfl⟩ Ent.drop))))))))))))
theorem tB (hsz : FK.kW σ.now + bs.length ≤ 9223372036854775807) (hp : σ.pend.length ≤ 1099511627776) (hl : bs.length ≤ 1099511627776) : Does Tryz.prog G 326 [aO d, bH name, u].toArray [ak d σ, bO u bs] fun v m => v = ef (σ.tell ⟨2, name, dr bs⟩).2 ∧ m = [ak d (σ.tell ⟨2, name, dr bs⟩).1] := by
 refine Does.body Tryz.func326 Z Z fun E fr hE => ?_
 refine aJ (At.seq (At.region (L.as Z Z (L.nil (At.then (At.seq (At.region (L.mv Z Z (L.mv Z Z (L.mv Z Z ?_))))))))))
 refine L.op Z (ah Z Z Z hE (xE hsz hp hl) (Ent.refl _) ?_)
 rintro v m ⟨hv, rfl⟩
 exact ai (L.as Z Z (L.nil (At.then (At.ret (aA [_] rfl Z ⟨hv, rfl⟩ (Ent.refl _))))))
theorem AI {i : Nat} (h : l[i]? = some o) (j : Nat) (u : Value) (hu : (kx o)[j]? = some u) : (fx l)[0 + i * 3 + j]? = some u := by
 rw [Nat.zero_add]
 exact ib (k := 3) (fun _ => rfl) j h hu
theorem wQ {k : Nat} (h : l[k]? = some o) : FK.gW (l.take k) + o.data.size ≤ FK.gW l := by
 have h1 : l.take (k + 1) = l.take k ++ [o] := by rw [List.take_add_one, h]; rfl
 have h2 : l = l.take (k + 1) ++ l.drop (k + 1) := (List.take_append_drop _ _).symm
 have h3 : ∀ a b : List FK.DOp, FK.gW (a ++ b) = FK.gW a + FK.gW b := fun a b => by simp [FK.gW]
 have h4 : FK.gW [o] = o.data.size := by simp [FK.gW]
 have h5 : FK.gW l = FK.gW (l.take k) + o.data.size + FK.gW (l.drop (k + 1)) := by
  conv => lhs; rw [h2, h1]
  rw [h3, h3, h4]
 omega
set_option maxHeartbeats 1000000 in
theorem iV (hsz : FK.kW σ.dur + FK.gW σ.pend ≤ 9223372036854775807) (hp : σ.pend.length ≤ 1099511627776) : Does Tryz.prog G 330 [aO d].toArray [ak d σ] fun v m => v = ef σ.sync.2 ∧ m = [ak d σ.sync.1] := by
 have hsz' : FK.kW σ.writes.1.dur + FK.gW σ.writes.1.pend ≤ 9223372036854775807 := by
  have : σ.writes.1.dur = σ.dur ∧ σ.writes.1.pend = σ.pend := by unfold FK.Dsk.writes; split; exact ⟨rfl, rfl⟩; split <;> exact ⟨rfl, rfl⟩
  rw [this.1, this.2]; exact hsz
 have hp' : σ.writes.1.pend.length ≤ 1099511627776 := by
  have : σ.writes.1.pend = σ.pend := by unfold FK.Dsk.writes; split; rfl; split <;> rfl
  rw [this]; exact hp
 have hsync : σ.sync = if σ.writes.2 ≠ 0 then σ.writes else ({ σ.writes.1 with dur := σ.writes.1.pend.foldl FK.dh σ.writes.1.dur, pend := [] }, 0) := rfl
 clear hsz hp
 refine Does.body Tryz.func330 Z Z fun E fr hE => ?_
 refine ai (At.seq (At.region (L.as Z Z (L.nil (At.then (At.seq (At.seq (At.region (L.mv Z Z ?_)))))))))
 refine L.op Z (ah Z Z Z hE mt (Ent.refl _) ?_)
 rintro v m ⟨hv, rfl⟩
 refine ai ?_
 generalize σ.writes = ω at *
 obtain ⟨⟨dur, now, pend, left, full, down⟩, e⟩ := ω
 simp only at hsz' hp' hv ⊢
 refine L.as Z Z (L.nil (At.then (At.seq ?_)))
 by_cases HE : e = 0
 ·
  subst HE
  subst hv
  refine At.region (L.mv Z Z (L.pure Z (co Z Z) (L.nil (At.then (aj Z (At.skip (At.then (At.seq (At.seq ?_)))))))))
  refine At.ex .head fun q => bq ?_
  obtain ⟨md, mn, pv, P⟩ := q
  refine At.ent (l' := kD d ⟨md, mn, pv, P⟩ ⟨dur, now, pend, left, full, down⟩ fr) (Ent.refl _) ?_
  refine aC (HasVal.sel (v := pv)) ?_
  rintro A c rfl f1 f2 f3 f4 -
  refine At.ent (l' := blk d 131 (ff ⟨md, mn, .slice A pend.length c, P⟩ ⟨dur, now, pend, left, full, down⟩) :: aX md P dur :: aX mn P now :: dt P :: row 211 3 (.slice A pend.length c) pend.length (fx pend) :: fr) (Ent.refl _) ?_
  refine At.region (L.mv Z Z (aR Z Z (aI 2 Z Z Z (bd Z Z Z Z (L.pure Z (aM Z Z) (L.mv Z Z (L.nil (At.then (At.block ?_)))))))))
  refine bk (X := Nat × List (Nat × ByteArray)) (fun x => [(16, .int .i64 x.1), (15, .int .i64 pend.length), (14, .slice A pend.length c), (0, aO d)]) (fun x => aX md x.2 ((pend.take x.1).foldl FK.dh dur) :: aX mn x.2 now :: dt x.2 :: row 211 3 (.slice A pend.length c) pend.length (fx pend) :: blk d 131 (ff ⟨md, mn, .slice A pend.length c, P⟩ ⟨dur, now, pend, left, full, down⟩) :: fr) (fun x => x.1 ≤ pend.length) (fun x => pend.length - x.1) (0, P) (Nat.zero_le _) ⟨rfl, rfl, rfl, rfl, trivial⟩ (by show Ent _ (aX md P dur :: aX mn P now :: dt P :: _ :: _ :: fr); exact al) ?_
  rintro ⟨k, P'⟩ hk
  replace hk : k ≤ pend.length := hk
  refine At.ent (l' := aX md P' ((pend.take k).foldl FK.dh dur) :: aX mn P' now :: dt P' :: row 211 3 (.slice A pend.length c) pend.length (fx pend) :: blk d 131 (ff ⟨md, mn, .slice A pend.length c, P⟩ ⟨dur, now, pend, left, full, down⟩) :: fr) (Ent.refl _) ?_
  refine At.seq (At.region (L.pure Z (bl Z Z Z) (L.nil (At.then (At.seq ?_)))))
  refine aE Z (fun c17 => ?_) (fun c17 => ?_)
  ·
   have hlt : k < pend.length := by have : (k : Int) < (pend.length : Int) := c17; omega
   obtain ⟨o, ho⟩ : ∃ o, pend[k]? = some o := ⟨pend[k], by simp [hlt]⟩
   obtain ⟨g, rfl⟩ : ∃ g, A = some ⟨g, 0, none⟩ := by
    cases A with
    | none => have h0 : pend.length = 0 := (f1 rfl).1; omega
    | some ad => obtain ⟨g, rfl⟩ := f2 ad rfl; exact ⟨g, rfl⟩
   have hvol := wQ ho
   have hvol2 := FK.ru (pend.take k) dur
   have htk : (pend.take (k + 1)).foldl FK.dh dur = FK.dh ((pend.take k).foldl FK.dh dur) o := by rw [List.take_add_one, ho, List.foldl_append]; rfl
   refine At.skip (At.then (At.seq (At.block (At.seq (At.region (L.pure Z (aT (z := 3) Z Z Z Z hlt) ?_))))))
   refine L.val Z (ao (vs := kx o) Z Z Z Z) (nq (.tail (.tail (.tail .head))) fun j u hj => AI ho j u hj) ?_
   refine L.op Z (aN (z := .agg #[.int .i64 0, .string .empty, .string .empty]) Z Z fun b5 => ?_)
   refine L.op Z (aK (vs := kx o) Z (m := 3) Z Z Z Z (by simp [Value.oneCell']) (by show 0 + 3 ≤ 3; omega) ?_)
   refine aD b5 (kx o).toArray Z (L.nil (At.then (Dr.start Z (dP 0 Z Z (ae Z) (dP 1 Z Z (am Z) (dP 2 Z Z (ab (off := 0) Z Z) (dL 3 Z Z (aa Z Z) (ag Z) (dL 4 Z Z (ao (vs := kx o) Z Z Z Z) (aw Z) ?_))))))))
   refine dR 5 Z Z (ah Z Z Z hE (qI (mb := md) (P := P') (fs := (pend.take k).foldl FK.dh dur) (o := o) (fun _ w hw => by have := FK.qq hw; omega)) (aP (.tail .head) (.tail (.tail .head))) ?_)
   rintro v m ⟨rfl, P2, hP2, rfl⟩
   refine aJ (dK [false, false] Kept.nil (dE (an (At.then (At.region (L.pure Z (aS (r := ((k + 1 : Nat) : Int)) Z Z (by rw [dd (by omega)]; omega)) (L.mv Z Z (L.nil ?_))))))))
   exact At.round (k + 1, P2) hlt (by show pend.length - (k + 1) < pend.length - k; omega) ⟨rfl, rfl, rfl, rfl, trivial⟩ (by rw [htk]; exact ((Ent.sel (.tail (.tail (.tail .head)))).trans (iJ hP2)).trans (by show Ent (aX mn P2 now :: _ :: _ :: _ :: _ :: _ :: fr) _; exact al))
  ·
   have hke : k = pend.length := by have : ¬ (k : Int) < (pend.length : Int) := c17; omega
   rw [hke, List.take_length]
   refine At.exit (az (ay (ar (At.then (At.seq (At.region (L.mv Z Z (aR Z Z (aI 2 Z Z Z ?_)))))))))
   refine L.st Z Z Z Z (by first | decide | simp | (simp; omega)) ?_
   refine L.nil (At.then (At.seq (At.region (L.as Z Z (L.nil (At.then (At.ret ?_)))))))
   have ht : σ.sync = (⟨pend.foldl FK.dh dur, now, [], left, full, down⟩, 0) := by rw [hsync, if_neg (by simp)]
   rw [ht]
   refine aD d (ff ⟨md, mn, .slice none 0 0, P'⟩ ⟨pend.foldl FK.dh dur, now, [], left, full, down⟩) Z (aA [ak d ⟨pend.foldl FK.dh dur, now, [], left, full, down⟩] rfl Z ⟨rfl, rfl⟩ ?_)
   refine Ent.trans ?_ (bL ⟨md, mn, .slice none 0 0, P'⟩ ⟨pend.foldl FK.dh dur, now, [], left, full, down⟩)
   refine (Ent.row0 (e := 211) (size := 3)).trans ?_
   show Ent _ (blk d 131 (ff ⟨md, mn, .slice none 0 0, P'⟩ ⟨pend.foldl FK.dh dur, now, [], left, full, down⟩) :: aX md P' (pend.foldl FK.dh dur) :: aX mn P' now :: dt P' :: row 211 3 (.slice none 0 0) 0 [] :: fr)
   exact al
 ·
  replace hv := hv.trans (if_neg HE)
  subst hv
  refine At.region (L.mv Z Z (L.pure Z (fv Z Z) (L.nil (At.then (aQ Z (At.seq (At.region (L.mv Z Z (L.as Z Z (L.nil (At.then (At.ret (aG ?_)))))))))))))
  have ht : σ.sync = (⟨dur, now, pend, left, full, down⟩, e) := by rw [hsync, if_pos HE]
  rw [ht]
  exact aA [_] rfl Z ⟨(if_neg HE).symm, rfl⟩ (Ent.refl _)
end
end Go.Proofs.YtmeegfamopaljaaGreatDoor

namespace Go.Proofs
open Go.Shelf
def lQ : Go.Shelf.Ren := ⟨fun | 171 => 200 | 243 => 224 | 246 => 250 | 283 => 276 | 284 => 277 | 285 => 278 | 286 => 279 | 129 => 227 | 317 => 299 | 318 => 300 | 319 => 301 | 320 => 141 | 337 => 195 | 338 => 196 | n => n, fun | 3 => 3 | 9 => 9 | 2 => 2 | 4 => 4 | 171 => 400 | 0 => 0 | 53 => 51 | 37 => 47 | 5 => 5 | 173 => 402 | 212 => 423 | 51 => 312 | 20 => 20 | 213 => 424 | 46 => 87 | 232 => 351 | 233 => 352 | n => n, fun | 17 => 5 | 18 => 1 | 19 => 2 | n => n⟩
theorem oY : Go.Proofs.LaysM.n171 Tryz.prog lQ := {
 mixed := by kernel_rfl
 f129 := Tryz.func227.trans (congrArg some (by kernel_rfl))
 f171 := Tryz.func200.trans (congrArg some (by kernel_rfl))
 f243 := Tryz.func224.trans (congrArg some (by kernel_rfl))
 f246 := Tryz.func250.trans (congrArg some (by kernel_rfl))
 f283 := Tryz.func276.trans (congrArg some (by kernel_rfl))
 f284 := Tryz.func277.trans (congrArg some (by kernel_rfl))
 f285 := Tryz.func278.trans (congrArg some (by kernel_rfl))
 f286 := Tryz.func279.trans (congrArg some (by kernel_rfl))
 f317 := Tryz.func299.trans (congrArg some (by kernel_rfl))
 f318 := Tryz.func300.trans (congrArg some (by kernel_rfl))
 f319 := Tryz.func301.trans (congrArg some (by kernel_rfl))
 f320 := Tryz.func141.trans (congrArg some (by kernel_rfl))
 f337 := Tryz.func195.trans (congrArg some (by kernel_rfl))
 f338 := Tryz.func196.trans (congrArg some (by kernel_rfl))
 t0 := Tryz.underlying0
 a0 := Tryz.isAgg0
 z0 := Tryz.sizeOf0
 v0 := Tryz.zeroValue0
 t2 := Tryz.underlying2
 a2 := Tryz.isAgg2
 z2 := Tryz.sizeOf2
 v2 := Tryz.zeroValue2
 t3 := Tryz.underlying3
 a3 := Tryz.isAgg3
 z3 := Tryz.sizeOf3
 v3 := Tryz.zeroValue3
 t4 := Tryz.underlying4
 a4 := Tryz.isAgg4
 z4 := Tryz.sizeOf4
 v4 := Tryz.zeroValue4
 t5 := Tryz.underlying5
 a5 := Tryz.isAgg5
 z5 := Tryz.sizeOf5
 v5 := Tryz.zeroValue5
 t9 := Tryz.underlying9
 a9 := Tryz.isAgg9
 z9 := Tryz.sizeOf9
 v9 := Tryz.zeroValue9
 t20 := Tryz.underlying20
 a20 := Tryz.isAgg20
 z20 := Tryz.sizeOf20
 v20 := Tryz.zeroValue20
 t37 := Tryz.underlying47
 a37 := Tryz.isAgg47
 z37 := Tryz.sizeOf47
 v37 := Tryz.zeroValue47
 t46 := Tryz.underlying87
 a46 := Tryz.isAgg87
 z46 := Tryz.sizeOf87
 v46 := Tryz.zeroValue87
 t51 := Tryz.underlying312
 a51 := Tryz.isAgg312
 z51 := Tryz.sizeOf312
 v51 := Tryz.zeroValue312
 t53 := Tryz.underlying51
 a53 := Tryz.isAgg51
 z53 := Tryz.sizeOf51
 v53 := Tryz.zeroValue51
 t171 := Tryz.underlying400
 a171 := Tryz.isAgg400
 z171 := Tryz.sizeOf400
 v171 := Tryz.zeroValue400
 t173 := Tryz.underlying402
 a173 := Tryz.isAgg402
 z173 := Tryz.sizeOf402
 v173 := Tryz.zeroValue402
 t212 := Tryz.underlying423
 a212 := Tryz.isAgg423
 z212 := Tryz.sizeOf423
 v212 := Tryz.zeroValue423
 t213 := Tryz.underlying424
 a213 := Tryz.isAgg424
 z213 := Tryz.sizeOf424
 t232 := Tryz.underlying351
 a232 := Tryz.isAgg351
 z232 := Tryz.sizeOf351
 v232 := Tryz.zeroValue351
 t233 := Tryz.underlying352
 a233 := Tryz.isAgg352
 z233 := Tryz.sizeOf352
 v233 := Tryz.zeroValue352
 g17 := by kernel_rfl
 g18 := by kernel_rfl
 g19 := by kernel_rfl
 i0 := by kernel_rfl
 i2 := by kernel_rfl
 i3 := by kernel_rfl
 i4 := by kernel_rfl
 i5 := by kernel_rfl
 i9 := by kernel_rfl
 i20 := by kernel_rfl
 i37 := by kernel_rfl
 i46 := by kernel_rfl
 i51 := by kernel_rfl
 i53 := by kernel_rfl
 i171 := by kernel_rfl
 i173 := by kernel_rfl
 i212 := by kernel_rfl
 i232 := by kernel_rfl
 i233 := by kernel_rfl
 m17 := by kernel_rfl
 m18 := by kernel_rfl
 m19 := by kernel_rfl }
open Go.RowKit Go.Sort Go.Lib in
theorem lO (n : Int) (h0 : -9223372036854775808 ≤ n) (h1 : n ≤ 9223372036854775807) (w : World) (htab : Lib.TabIs Tryz.prog w "internal/strconv.uint64pow10" .u64 Lib.pow10Tab) :
 Calls Tryz.prog 200 #[.int .i64 n] w fun e w' => e = .returned (.string ⟨(Lib.itoa n).toArray⟩) ∧ ∃ k os, w' = grow (w.drewN k) os := Any.strconv_Itoa oY n h0 h1 w htab
def lR : Go.Shelf.Ren := ⟨fun | 172 => 169 | 244 => 212 | 245 => 213 | 247 => 237 | 279 => 238 | 280 => 239 | 281 => 240 | 282 => 241 | 287 => 261 | 316 => 262 | 171 => 200 | 205 => 263 | 321 => 282 | 322 => 283 | 243 => 224 | 246 => 250 | 283 => 276 | 284 => 277 | 285 => 278 | 286 => 279 | 129 => 227 | 317 => 299 | 318 => 300 | 319 => 301 | 320 => 141 | 337 => 195 | 338 => 196 | n => n, fun | 9 => 9 | 3 => 3 | 75 => 109 | 76 => 281 | 4 => 4 | 5 => 5 | 167 => 366 | 37 => 47 | 0 => 0 | 85 => 367 | 2 => 2 | 168 => 369 | 53 => 51 | 175 => 120 | 46 => 87 | 210 => 390 | 127 => 407 | 145 => 410 | 143 => 408 | 21 => 21 | 171 => 400 | 173 => 402 | 212 => 423 | 51 => 312 | 20 => 20 | 213 => 424 | 232 => 351 | 233 => 352 | 80 => 431 | n => n, fun | 15 => 3 | 16 => 4 | 17 => 5 | 18 => 1 | 19 => 2 | n => n⟩
theorem oZ : Go.Proofs.LaysC.n172 Tryz.prog lR := {
 mixed := by kernel_rfl
 f129 := Tryz.func227.trans (congrArg some (by kernel_rfl))
 f171 := Tryz.func200.trans (congrArg some (by kernel_rfl))
 f172 := Tryz.func169.trans (congrArg some (by kernel_rfl))
 f205 := Tryz.func263.trans (congrArg some (by kernel_rfl))
 f243 := Tryz.func224.trans (congrArg some (by kernel_rfl))
 f244 := Tryz.func212.trans (congrArg some (by kernel_rfl))
 f245 := Tryz.func213.trans (congrArg some (by kernel_rfl))
 f246 := Tryz.func250.trans (congrArg some (by kernel_rfl))
 f247 := Tryz.func237.trans (congrArg some (by kernel_rfl))
 f279 := Tryz.func238.trans (congrArg some (by kernel_rfl))
 f280 := Tryz.func239.trans (congrArg some (by kernel_rfl))
 f281 := Tryz.func240.trans (congrArg some (by kernel_rfl))
 f282 := Tryz.func241.trans (congrArg some (by kernel_rfl))
 f283 := Tryz.func276.trans (congrArg some (by kernel_rfl))
 f284 := Tryz.func277.trans (congrArg some (by kernel_rfl))
 f285 := Tryz.func278.trans (congrArg some (by kernel_rfl))
 f286 := Tryz.func279.trans (congrArg some (by kernel_rfl))
 f287 := Tryz.func261.trans (congrArg some (by kernel_rfl))
 f316 := Tryz.func262.trans (congrArg some (by kernel_rfl))
 f317 := Tryz.func299.trans (congrArg some (by kernel_rfl))
 f318 := Tryz.func300.trans (congrArg some (by kernel_rfl))
 f319 := Tryz.func301.trans (congrArg some (by kernel_rfl))
 f320 := Tryz.func141.trans (congrArg some (by kernel_rfl))
 f321 := Tryz.func282.trans (congrArg some (by kernel_rfl))
 f322 := Tryz.func283.trans (congrArg some (by kernel_rfl))
 f337 := Tryz.func195.trans (congrArg some (by kernel_rfl))
 f338 := Tryz.func196.trans (congrArg some (by kernel_rfl))
 t0 := Tryz.underlying0
 a0 := Tryz.isAgg0
 z0 := Tryz.sizeOf0
 v0 := Tryz.zeroValue0
 t2 := Tryz.underlying2
 a2 := Tryz.isAgg2
 z2 := Tryz.sizeOf2
 v2 := Tryz.zeroValue2
 t3 := Tryz.underlying3
 a3 := Tryz.isAgg3
 z3 := Tryz.sizeOf3
 v3 := Tryz.zeroValue3
 t4 := Tryz.underlying4
 a4 := Tryz.isAgg4
 z4 := Tryz.sizeOf4
 v4 := Tryz.zeroValue4
 t5 := Tryz.underlying5
 a5 := Tryz.isAgg5
 z5 := Tryz.sizeOf5
 v5 := Tryz.zeroValue5
 t9 := Tryz.underlying9
 a9 := Tryz.isAgg9
 z9 := Tryz.sizeOf9
 v9 := Tryz.zeroValue9
 t20 := Tryz.underlying20
 a20 := Tryz.isAgg20
 z20 := Tryz.sizeOf20
 v20 := Tryz.zeroValue20
 t21 := Tryz.underlying21
 a21 := Tryz.isAgg21
 z21 := Tryz.sizeOf21
 v21 := Tryz.zeroValue21
 t37 := Tryz.underlying47
 a37 := Tryz.isAgg47
 z37 := Tryz.sizeOf47
 v37 := Tryz.zeroValue47
 t46 := Tryz.underlying87
 a46 := Tryz.isAgg87
 z46 := Tryz.sizeOf87
 v46 := Tryz.zeroValue87
 t51 := Tryz.underlying312
 a51 := Tryz.isAgg312
 z51 := Tryz.sizeOf312
 v51 := Tryz.zeroValue312
 t53 := Tryz.underlying51
 a53 := Tryz.isAgg51
 z53 := Tryz.sizeOf51
 v53 := Tryz.zeroValue51
 t75 := Tryz.underlying109
 a75 := Tryz.isAgg109
 z75 := Tryz.sizeOf109
 v75 := Tryz.zeroValue109
 t76 := Tryz.underlying281
 a76 := Tryz.isAgg281
 z76 := Tryz.sizeOf281
 v76 := Tryz.zeroValue281
 t85 := Tryz.underlying367
 a85 := Tryz.isAgg367
 z85 := Tryz.sizeOf367
 v85 := Tryz.zeroValue367
 t127 := Tryz.underlying407
 a127 := Tryz.isAgg407
 z127 := Tryz.sizeOf407
 v127 := Tryz.zeroValue407
 t143 := Tryz.underlying408
 a143 := Tryz.isAgg408
 z143 := Tryz.sizeOf408
 v143 := Tryz.zeroValue408
 t145 := Tryz.underlying410
 a145 := Tryz.isAgg410
 z145 := Tryz.sizeOf410
 v145 := Tryz.zeroValue410
 t167 := Tryz.underlying366
 a167 := Tryz.isAgg366
 z167 := Tryz.sizeOf366
 v167 := Tryz.zeroValue366
 t168 := Tryz.underlying369
 a168 := Tryz.isAgg369
 z168 := Tryz.sizeOf369
 v168 := Tryz.zeroValue369
 t171 := Tryz.underlying400
 a171 := Tryz.isAgg400
 z171 := Tryz.sizeOf400
 v171 := Tryz.zeroValue400
 t173 := Tryz.underlying402
 a173 := Tryz.isAgg402
 z173 := Tryz.sizeOf402
 v173 := Tryz.zeroValue402
 t175 := Tryz.underlying120
 a175 := Tryz.isAgg120
 z175 := Tryz.sizeOf120
 v175 := Tryz.zeroValue120
 t210 := Tryz.underlying390
 a210 := Tryz.isAgg390
 z210 := Tryz.sizeOf390
 v210 := Tryz.zeroValue390
 t212 := Tryz.underlying423
 a212 := Tryz.isAgg423
 z212 := Tryz.sizeOf423
 v212 := Tryz.zeroValue423
 t213 := Tryz.underlying424
 a213 := Tryz.isAgg424
 z213 := Tryz.sizeOf424
 t232 := Tryz.underlying351
 a232 := Tryz.isAgg351
 z232 := Tryz.sizeOf351
 v232 := Tryz.zeroValue351
 t233 := Tryz.underlying352
 a233 := Tryz.isAgg352
 z233 := Tryz.sizeOf352
 v233 := Tryz.zeroValue352
 g15 := by kernel_rfl
 g16 := by kernel_rfl
 g17 := by kernel_rfl
 g18 := by kernel_rfl
 g19 := by kernel_rfl
 t80 := Tryz.underlying431
 a80 := Tryz.isAgg431
 z80 := Tryz.sizeOf431
 v80 := Tryz.zeroValue431
 i0 := by kernel_rfl
 i2 := by kernel_rfl
 i3 := by kernel_rfl
 i4 := by kernel_rfl
 i5 := by kernel_rfl
 i9 := by kernel_rfl
 i20 := by kernel_rfl
 i21 := by kernel_rfl
 i37 := by kernel_rfl
 i46 := by kernel_rfl
 i51 := by kernel_rfl
 i53 := by kernel_rfl
 i75 := by kernel_rfl
 i76 := by kernel_rfl
 i80 := by kernel_rfl
 i85 := by kernel_rfl
 i127 := by kernel_rfl
 i143 := by kernel_rfl
 i145 := by kernel_rfl
 i167 := by kernel_rfl
 i168 := by kernel_rfl
 i171 := by kernel_rfl
 i173 := by kernel_rfl
 i175 := by kernel_rfl
 i210 := by kernel_rfl
 i212 := by kernel_rfl
 i232 := by kernel_rfl
 i233 := by kernel_rfl
 m15 := by kernel_rfl
 m16 := by kernel_rfl
 m17 := by kernel_rfl
 m18 := by kernel_rfl
 m19 := by kernel_rfl
 c0 := by kernel_rfl
 c2 := by kernel_rfl
 c3 := by kernel_rfl
 c4 := by kernel_rfl
 c5 := by kernel_rfl
 c9 := by kernel_rfl
 c20 := by kernel_rfl
 c21 := by kernel_rfl
 c37 := by kernel_rfl
 c46 := by kernel_rfl
 c51 := by kernel_rfl
 c53 := by kernel_rfl
 c75 := by kernel_rfl
 c76 := by kernel_rfl
 c80 := by kernel_rfl
 c85 := by kernel_rfl
 c127 := by kernel_rfl
 c143 := by kernel_rfl
 c145 := by kernel_rfl
 c167 := by kernel_rfl
 c168 := by kernel_rfl
 c171 := by kernel_rfl
 c173 := by kernel_rfl
 c175 := by kernel_rfl
 c210 := by kernel_rfl
 c212 := by kernel_rfl
 c213 := by kernel_rfl
 c232 := by kernel_rfl
 c233 := by kernel_rfl }
open Go.RowKit in
theorem jF (s : ByteArray) (hl : s.size ≤ 18) (h : Lib.atoi s.data.toList = none) (ev : Value) (w : World) (hv : w.cell? ⟨3, 0, none⟩ = some ev) (hev : ev = .nilIface ∨ ∃ te pe, ev = .iface te pe) :
 Calls Tryz.prog 169 #[.string s] w fun e w' => ∃ N, e = .returned (.tuple #[.int .i64 0, .iface 369 (.pointer (some ⟨N, 0, none⟩))]) ∧ w.heap.size ≤ N ∧ w'.heap[N]? = some (.cells #[.string ⟨#[65, 116, 111, 105]⟩, .string s, ev] 390 (0, 0)) ∧ Below w.heap.size w w' := Any.strconv_Atoi_err oZ s hl h ev w hv hev
end Go.Proofs
