/- The engine's fails, walked. -/
import Derived.Test.YtmeegfamopaljaaGreatDoorEdQ
import Derived.Test.YtmeegfamopaljaaGreatDoorEdM
import Derived.Test.YtmeegfamopaljaaGreatDoorEdJ
import Derived.Laws.BitsAllLaws
import Derived.Test.YtmeegfamopaljaaGreatDoorEdI
import Derived.Test.YtmeegfamopaljaaGreatDoorEdK
import Derived.ChangeKeysEq
import Derived.Lib.AppendZerosOnto
namespace Go.Proofs.YtmeegfamopaljaaGreatDoor
open Go Go.RowKit Go.SL
variable {G : Env → Prop}
theorem aft_lt {fl : FK.Flow} (h : vT fl) : ∀ i, ∀ k ∈ FK.cO fl.nodes i, k < fl.nodes.length := fun i k hk => by
 unfold FK.cO at hk
 split at hk
 · rename_i n hn
   obtain ⟨x, hx, rfl⟩ := List.mem_map.1 hk
   obtain ⟨h0, h1⟩ := h n (List.mem_of_getElem? hn) x hx
   omega
 · cases hk
theorem nQ {R : FK.Rn} {k : Nat} {s : FK.Sp} {st : Int} {T : List Nat} : ((R.turned k s st).skips T).steps.length = R.steps.length := by
 unfold FK.Rn.skips
 rw [show ({ R.turned k s st with steps := T.foldl (FK.bS (R.turned k s st).fl.nodes) (R.turned k s st).steps } : FK.Rn).steps = T.foldl (FK.bS (R.turned k s st).fl.nodes) (R.turned k s st).steps from rfl, FK.jU]
 unfold FK.Rn.turned FK.Rn.setS
 simp
set_option maxRecDepth 10000 in
set_option maxHeartbeats 2000000 in
theorem ux {e : Nat} {p : EA} {S : FK.En} {id k : Nat} {wh : Int} {R : FK.Rn} {s : FK.Sp} {nd : FK.Node} (hG : ∀ E w, G E → E.is w → Tab w) (hR : S.getR id = some R) (hs : R.steps[k]? = some s) (db : R.fl.nodes[k]? = some nd) (hlen : R.steps.length = R.fl.nodes.length) (hn : R.fl.nodes.length ≤ 12) (hfit : vT R.fl) (hsm : ∀ n ∈ R.fl.nodes, (i64 n.budget ∧ i64 n.close ∧ i64 n.beat ∧ i64 n.base ∧ i64 n.cap ∧ i64 n.jitter) ∧ ∀ x ∈ n.after, i64 x)
 (hq : S.queue.length ≤ 300) (hl : S.tms.length ≤ 99997) (hends : S.ends < 9223372036854775807) (hnow : S.now ≤ 4611686018427387904) (hsets : S.sets + 1 < 9223372036854775807) (hseed : S.seed < 18446744073709551616) (h1 : 1 ≤ nd.base) (h2 : nd.base ≤ nd.cap) (h3 : nd.cap ≤ 1048576) (h4 : 0 ≤ nd.jitter) (h5 : nd.jitter ≤ 1048576) (hrest : 0 ≤ eO nd.base nd.cap nd.jitter s.tries S.seed ∧ eO nd.base nd.cap nd.jitter s.tries S.seed ≤ 4611686018427387904) :
 Does Tryz.prog G 234 [aL e, fZ ⟨id, (k : Int), wh⟩].toArray [ap e p S] fun v m => v = .tuple #[] ∧ ((s.tries < nd.budget ∧ m = [ap e p (S.rests id k R s (eO nd.base nd.cap nd.jitter s.tries S.seed).toNat)]) ∨ (nd.budget ≤ s.tries ∧ ∃ left T, FK.Ordering R.fl.nodes left T ∧ (∀ i, left.testBit i = true → ∃ j ∈ FK.cO R.fl.nodes i, left.testBit j = true) ∧ m = [ap e p (S.dies id k R s T)])) := by
 have hkn := (List.getElem?_eq_some_iff.1 db).1
 have hRl := FK.fV hR hs
 have hsl := FK.cd (R := R) (s' := { s with token := 0 }) hs
 refine Does.body Tryz.func234 Z Z fun E fr hE => ?_
 refine ai ?_
 refine eC (fun w hw => jB hR db hw) fun hA => ?_
 obtain ⟨A, c, hu, -⟩ := hA
 refine At.seq (At.region (L.op Z (cc Z Z fun b3 => (L.nil (At.then (At.seq (Dr.start Z (dP 0 Z Z (ag Z) (dP 1 Z Z (aq Z) (dP 2 Z Z (ab (off := 1) Z Z) ?_))))))))))
 refine dL 3 Z Z (aa Z Z) (aQ fun _ _ _ => rfl) ?_
 refine dP 4 Z Z (ab (off := 0) Z Z) (dL 5 Z Z (aa Z Z) (ae Z) (dL 6 Z Z (eB (a := id) (v := aL (p.fb id)) Z dD Z Z (eS hR)) cS (dR 7 Z Z (aH (z := .pointer none) Z Z fun b4 => ?_))))
 refine Dr.kept [true, true, true] (by kernel_rfl) (Kept.cons cS (Kept.cons (ae Z) (Kept.cons (aQ fun _ _ _ => rfl) Kept.nil))) ?_
 refine dR 8 Z Z (bC Z Z Z Z Z (by show 0 < 1; omega) ?_)
 refine Dr.kept [false, false, false] (by kernel_rfl) Kept.nil ?_
 refine dE (At.then ?_)
 refine At.seq (At.cut (X := Nat) (fun b => [(0, aL e), (3, aL b3), (4, aL b4), (5, .pointer (some ⟨(p.ra id).gs, 0 + k * 3, none⟩)), (6, aL b)]) (fun b => ap e p (S.leave id k) :: blk b3 268 (fE ⟨id, (k : Int), wh⟩).toArray :: eN b4 (aL (p.fb id)) :: blk b 46 (aw nd (.slice A nd.after.length c)).toArray :: fr) (fun _ => True) ?_ ?_)
 ·
  refine ax b4 #[aL (p.fb id)] rfl (Dr.start Z (dP 0 Z Z (ag Z) ?_))
  refine dL 1 Z Z (am (vs := fE ⟨id, (k : Int), wh⟩) Z Z Z Z) (av Z) ?_
  refine dL 3 Z Z (aa Z Z) (ae Z) (dP 4 Z Z (aq Z) (dP 5 Z Z (ab (off := 0) Z Z) (dP 6 Z Z (ab (off := 1) Z Z) (dL 7 Z Z (aa (v := (p.ra id).nv R) Z Z) (bN hR Z) (dP 8 Z Z (ab (off := 1) Z Z) (dL 9 Z Z (aa Z Z) (ae Z) (dP 10 Z Z (bD (z := 7) Z Z Z Z hkn) (dL 11 Z Z (am (vs := aw nd (.slice A nd.after.length c)) Z Z Z Z) (de hR db hu) ?_))))))))
  refine gz 2 12 Z Z Z Z (by kernel_rfl) (ah Z Z Z hE (i7 (wh := wh) hR hs (by omega)) (Ent.trans (Ent.sel HasEng.sel) (Ent.refl _)) ?_) (aH (z := .agg #[.int .i64 0, .int .i64 0, .int .i64 0, .int .i64 0, .int .i64 0, .int .i64 0, .slice none 0 0]) Z Z fun b6 => ?_)
  ·
   rintro v m ⟨rfl, rfl⟩
   refine ai ?_
   refine Dr.kept [true, true, true, true, false] (by kernel_rfl) (Kept.cons (by first | exact de hRl db hu | exact de hR db hu) (Kept.cons (ae Z) (Kept.cons (by first | exact bN hRl Z | exact bN hR Z) (Kept.cons (ae Z) Kept.nil)))) ?_
   refine dR 12 Z Z (aH (z := .agg #[.int .i64 0, .int .i64 0, .int .i64 0, .int .i64 0, .int .i64 0, .int .i64 0, .slice none 0 0]) Z Z fun b6 => ?_)
   refine Dr.kept [true, true, true, true] (by kernel_rfl) (Kept.cons (by first | exact de hRl db hu | exact de hR db hu) (Kept.cons (ae Z) (Kept.cons (by first | exact bN hRl Z | exact bN hR Z) (Kept.cons (ae Z) Kept.nil)))) ?_
   refine dP 13 Z Z (az Z) ?_
   refine dR 14 Z Z (aG (vs := aw nd (.slice A nd.after.length c)) Z (m := 7) Z Z Z Z (by simp [aw, Value.oneCell']) (by show 0 + 7 ≤ 7; omega) ?_)
   refine Dr.kept [false, false, false, false] (by kernel_rfl) Kept.nil ?_
   refine dE (ax b6 (aw nd (.slice A nd.after.length c)).toArray Z ?_)
   refine ax b3 (fE ⟨id, (k : Int), wh⟩).toArray Z ?_
   exact bk b6 trivial ⟨rfl, rfl, rfl, rfl, rfl, trivial⟩ ao
  ·
   refine Dr.kept [true, true, true, true, true] (by kernel_rfl) (Kept.cons (by first | exact de hRl db hu | exact de hR db hu) (Kept.cons (ae Z) (Kept.cons (by first | exact bN hRl Z | exact bN hR Z) (Kept.cons (ae Z) (Kept.cons (av Z) Kept.nil))))) ?_
   refine dR 2 Z Z (ah Z Z Z hE (i7 (wh := wh) hR hs (by omega)) (Ent.trans (Ent.sel HasEng.sel) (Ent.refl _)) ?_)
   rintro v m ⟨rfl, rfl⟩
   refine ai ?_
   refine Dr.kept [true, true, true, true, false] (by kernel_rfl) (Kept.cons (by first | exact de hRl db hu | exact de hR db hu) (Kept.cons (ae Z) (Kept.cons (by first | exact bN hRl Z | exact bN hR Z) (Kept.cons (ae Z) Kept.nil)))) ?_
   refine dP 13 Z Z (az Z) ?_
   refine dR 14 Z Z (aG (vs := aw nd (.slice A nd.after.length c)) Z (m := 7) Z Z Z Z (by simp [aw, Value.oneCell']) (by show 0 + 7 ≤ 7; omega) ?_)
   refine Dr.kept [false, false, false, false] (by kernel_rfl) Kept.nil ?_
   refine dE (ax b6 (aw nd (.slice A nd.after.length c)).toArray Z ?_)
   refine ax b3 (fE ⟨id, (k : Int), wh⟩).toArray Z ?_
   exact bk b6 trivial ⟨rfl, rfl, rfl, rfl, rfl, trivial⟩ ao
 rintro b6 -
 refine At.ent (l' := ap e p (S.leave id k) :: blk b3 268 (fE ⟨id, (k : Int), wh⟩).toArray :: eN b4 (aL (p.fb id)) :: blk b6 46 (aw nd (.slice A nd.after.length c)).toArray :: fr) (Ent.refl _) ?_
 refine At.seq (At.seq (Dr.start Z (dP 0 Z Z (ag Z) (dP 1 Z Z (aq Z) (dP 2 Z Z (ab (off := 1) Z Z) (dL 3 Z Z (aa (v := .int .i64 s.tries) Z Z) (dW hRl hsl Z) (dP 4 Z Z (ab (off := 0) Z Z) (dL 5 Z Z (aa Z Z) (ae Z) (dP 6 Z Z (bf Z Z Z) (dE (At.then ?_)))))))))))
 refine aC Z (fun c32 => ?_) (fun c32 => ?_)
 ·
  refine At.seq (At.region (L.mv Z Z (aN Z Z (aE 0 Z Z Z ?_))))
  refine L.op Z (iG (S := S.leave id k) (R := R.setS k { s with token := 0 }) (s := { s with token := 0 }) (j := 0) (s' := { s with token := 0, state := 4 }) hRl hsl Z Z Z Z (by omega) Z Z ?_)
  refine L.nil (At.then (At.seq ?_))
  obtain ⟨T, hT⟩ : ∃ T, T = (S.leave id k).setR id (R.turned k s 4) := ⟨_, rfl⟩
  have hRT : T.getR id = some (R.turned k s 4) := by rw [hT]; exact FK.cg hRl
  have hsT : (R.turned k s 4).steps[k]? = some { s with token := 0, state := 4 } := FK.cd hsl
  have hTn : T.now = S.now := by rw [hT, FK.dm hR hs]; rfl
  have hTs : T.sets = S.sets := by rw [hT, FK.dm hR hs]; rfl
  have hTd : T.seed = S.seed := by rw [hT, FK.dm hR hs]; rfl
  have hTt : T.tms.length ≤ S.tms.length := by rw [hT]; exact FK.jY
  refine At.ent (l' := ap e p T :: blk b3 268 (fE ⟨id, (k : Int), wh⟩).toArray :: eN b4 (aL (p.fb id)) :: blk b6 46 (aw nd (.slice A nd.after.length c)).toArray :: fr) (by rw [hT]; exact Ent.refl _) ?_
  rw [← hTd] at hrest hseed
  refine Dr.start Z (dP 0 Z Z (ag Z) (dP 1 Z Z (aq Z) (dP 2 Z Z (ab (off := 6) Z Z) ?_)))
  refine dL 3 Z Z (aa Z Z) (aQ fun _ _ _ => rfl) ?_
  refine dP 4 Z Z (ab (off := 0) Z Z) (dL 5 Z Z (aa Z Z) (ae Z) (dP 6 Z Z (ab (off := 1) Z Z) (dL 7 Z Z (aa Z Z) (ae Z) (dP 8 Z Z (bg (cs := #[.int .u64 id, .int .i64 (k : Int), .int .i64 1]) Z Z Z Z Z) (dP 9 Z Z (ag Z) (dL 10 Z Z (am (vs := aw nd (.slice A nd.after.length c)) Z Z Z Z) (av Z) (dP 11 Z Z (ag Z) (dP 12 Z Z (aq Z) (dP 13 Z Z (ab (off := 1) Z Z) (dL 14 Z Z (aa (v := .int .i64 s.tries) Z Z) (dW hRT hsT Z) (dP 15 Z Z (ag Z) (dP 16 Z Z (aq Z) (dP 17 Z Z (ab (off := 0) Z Z) ?_)))))))))))))
  refine dL 18 Z Z (aa (v := .int .u64 T.seed) Z Z) (aQ fun _ _ _ => rfl) ?_
  refine dR 19 Z Z (ah Z Z Z hE (wx nd A nd.after.length c s.tries T.seed h1 h2 h3 h4 h5 hseed) (Ent.refl _) ?_)
  rintro v m ⟨rfl, rfl⟩
  rw [List.nil_append]
  refine Dr.kept [false, false, false, true, true, true] (by kernel_rfl) (Kept.cons (ae Z) (Kept.cons (ae Z) (Kept.cons (aQ fun _ _ _ => rfl) Kept.nil))) ?_
  refine dR 20 Z Z (ah Z Z Z hE (jc (S := T) (eO nd.base nd.cap nd.jitter s.tries T.seed) (by omega) hrest.1 hrest.2) (Ent.refl _) ?_)
  rintro v m ⟨rfl, rfl⟩
  refine ai ?_
  refine Dr.kept [true, true, true] (by kernel_rfl) (Kept.cons (ae Z) (Kept.cons (ae Z) (Kept.cons (aQ fun _ _ _ => rfl) Kept.nil))) ?_
  refine dR 21 Z Z (ah Z Z Z hE (mQ (S := T) ⟨id, (k : Int), 1⟩ (T.later (eO nd.base nd.cap nd.jitter s.tries T.seed).toNat) (by unfold FK.En.later; omega) (by unfold FK.En.later; omega) (by omega) (by omega)) (Ent.refl _) ?_)
  rintro v m ⟨rfl, rfl⟩
  refine ai ?_
  refine Dr.kept [true, true, false] (by kernel_rfl) (Kept.cons (ae Z) (Kept.cons (ae Z) Kept.nil)) ?_
  refine dE (At.then (At.ret (aI ?_)))
  refine aZ [_] rfl ⟨rfl, .inl ⟨by omega, rfl⟩⟩ ?_
  have hfin : T.setT ⟨id, (k : Int), 1⟩ (T.later (eO nd.base nd.cap nd.jitter s.tries T.seed).toNat) = S.rests id k R s (eO nd.base nd.cap nd.jitter s.tries S.seed).toNat := by rw [hTd, hT]; rfl
  rw [← hfin]
  exact Ent.cons (Ent.drop.trans (Ent.drop.trans Ent.drop))
 ·
  refine At.skip (At.then (At.seq (At.region (L.mv Z Z (aN Z Z (aE 0 Z Z Z ?_))))))
  refine L.op Z (iG (S := S.leave id k) (R := R.setS k { s with token := 0 }) (s := { s with token := 0 }) (j := 0) (s' := { s with token := 0, state := 6 }) hRl hsl Z Z Z Z (by omega) Z Z ?_)
  refine L.nil (At.then (At.seq ?_))
  have hRT : ∀ T, ((S.leave id k).setR id ((R.turned k s 6).skips T)).getR id = some ((R.turned k s 6).skips T) := fun T => FK.cg hRl
  refine At.ent (l' := ap e p ((S.leave id k).setR id ((R.turned k s 6).skips [])) :: eN b4 (aL (p.fb id)) :: blk b3 268 (fE ⟨id, (k : Int), wh⟩).toArray :: blk b6 46 (aw nd (.slice A nd.after.length c)).toArray :: fr) (Ent.cons (Ent.sel (.tail .head))) ?_
  refine At.region (aX Z Z Z Z (aN Z Z (aE 0 Z Z Z (aE 1 Z Z Z (L.val Z (aa (v := (p.ra id).nv R) Z Z) (bN (hRT []) Z) ?_)))))
  refine L.pure Z (ea Z Z) ?_
  refine L.op Z (ah Z Z Z hE (t8 (l := R.fl.nodes) (F := 255) (cap := #[aL b4]) (L := fun T => [ap e p ((S.leave id k).setR id ((R.turned k s 6).skips T)), eN b4 (aL (p.fb id))]) hn (aft_lt hfit) (fun n hn x hx => (hfit n hn x hx).1) (fun _ _ => rfl) hG (fun n T w F hst hF => (by
 obtain ⟨F1, F2, f1, _, _, hp, _⟩ := hst
 exact xu (R := (R.turned k s 6).skips T) (hRT T) hp (fun q hq => hF q (f1 q hq)) hsm)) (fun n T j hj _ _ => (by
 refine (sU (h := n) (c := b4) (hRT T) (by rw [nQ]; exact hlen) hfit (by show R.fl.nodes.length ≤ 100; omega) hj).mono ?_
 rintro v m ⟨rfl, rfl⟩
 refine ⟨_, ⟨rfl, rfl⟩, ?_⟩
 rw [FK.dX]
 have hfold : ({ (R.turned k s 6).skips T with steps := FK.bS ((R.turned k s 6).skips T).fl.nodes ((R.turned k s 6).skips T).steps j } : FK.Rn) = (R.turned k s 6).skips (T ++ [j]) := by
  unfold FK.Rn.skips
  rw [List.foldl_append]
  rfl
 rw [hfold]
 exact Ent.refl _))) (Ent.refl _) ?_)
  rintro v m ⟨left, T, rfl, hord, hstuck, rfl⟩
  refine aF (L.nil (At.then (At.region (L.mv Z Z (aE 0 Z Z Z (aX Z Z Z Z ?_))))))
  refine L.op Z (ah Z Z Z hE (mi (hRT T) (by rw [nQ]; omega) (by show (S.leave id k).queue.length ≤ 400; rw [FK.jH]; omega) (by show (S.leave id k).tms.length ≤ 99999; have := FK.jY (S := S) (id := id) (k := k); omega) (by show (S.leave id k).ends < _; rw [FK.dm hR hs]; exact hends)) (Ent.refl _) ?_)
  rintro v m ⟨rfl, rfl⟩
  refine ai (L.nil ?_)
  exact aZ [ap e p (S.dies id k R s T)] rfl ⟨rfl, .inr ⟨by omega, left, T, hord, hstuck, rfl⟩⟩ (Ent.cons (Ent.drop.trans (Ent.drop.trans Ent.drop)))
end Go.Proofs.YtmeegfamopaljaaGreatDoor

namespace Go.Proofs.YtmeegfamopaljaaGreatDoor
open Go Go.RowKit Go.SL
variable {G : Env → Prop}
theorem vj {e : Nat} {p : EA} {S : FK.En} (up : Nat) (hto : S.now ≤ up) (hto62 : up ≤ 4611686018427387904) (hsq : S.sets < 9223372036854775808) (hln : S.tms.length ≤ 99999) :
 Does Tryz.prog Good 236 [aL p.w, .int .u64 up].toArray [ap e p S] fun v m => (∃ (x : FK.KD) (tms' : List FK.KD), FK.IsMin S.tms x tms' ∧ x.2 ≤ up ∧ v = .tuple #[fZ x.1, .int .u64 x.2, .bool true] ∧ m = [ap e p { S with now := x.2, tms := tms' }]) ∨
  ((∀ y ∈ S.tms, up < y.2) ∧ v = .tuple #[fZ ⟨0, 0, 0⟩, .int .u64 0, .bool false] ∧ m = [ap e p { S with now := up }]) := by
 refine hK fun W hW => (y3 p.w up hW.inv (by rw [hW.now]; exact hto) hto62 (Nat.lt_of_le_of_lt hW.seq hsq) (by have := congrArg List.length hW.tms; rw [List.length_map] at this; omega)).mono ?_
 rintro v m (⟨S', x, h1, h2, h3, h4, h5, rfl, rfl⟩ | ⟨S', h1, h2, h3, h4, h5, rfl, rfl⟩)
 · rw [hW.tms] at h1
   exact ⟨_, ⟨S', x.2, S.sets, S'.tms.map FK.kd, rfl, ⟨h4, h5 ▸ hW.seq, h3, rfl⟩, .inl ⟨x, _, h1, h2, rfl, rfl⟩⟩, Ent.refl _⟩
 · rw [hW.tms] at h1 h2
   exact ⟨_, ⟨S', up, S.sets, S.tms, rfl, ⟨h4, h5 ▸ hW.seq, h3, h2⟩, .inr ⟨h1, rfl, rfl⟩⟩, Ent.refl _⟩
set_option maxRecDepth 10000 in
theorem s5 {e : Nat} {p : EA} {S : FK.En} {id : Nat} {R : FK.Rn} (hR : S.getR id = some R) (hn : R.steps.length ≤ 100) (hq : S.queue.length ≤ 400) (hl : S.tms.length ≤ 99999) (hends : S.ends < 9223372036854775807) : Does Tryz.prog G 209 [aL e, bc id].toArray [ap e p S] fun v m => v = .tuple #[] ∧ m = [ap e p (S.finish id 4)] := by
 refine Does.body Tryz.func209 Z Z fun E fr hE => ?_
 refine ai (At.region (L.mv Z Z (L.mv Z Z (L.op Z (ah Z Z Z hE (jI hR hn hq hl hends) (Ent.refl _) ?_)))))
 rintro v m ⟨rfl, rfl⟩
 refine ai (L.nil ?_)
 exact aZ [_] rfl ⟨rfl, rfl⟩ (Ent.refl _)
end Go.Proofs.YtmeegfamopaljaaGreatDoor

namespace FK
def qc (p : Nat × Nat) (c : UInt8) : Nat × Nat := ((p.1 + c.toNat) % 65521, (p.2 + (p.1 + c.toNat) % 65521) % 65521)
def dF (bs : List UInt8) : Nat × Nat := bs.foldl qc (1, 0)
def fG (bs : List UInt8) : Nat := (dF bs).2 * 65536 + (dF bs).1
theorem pL (bs : List UInt8) : (dF bs).1 < 65521 ∧ (dF bs).2 < 65521 := by
 have h : ∀ (l : List UInt8) (p : Nat × Nat), p.1 < 65521 ∧ p.2 < 65521 → (l.foldl qc p).1 < 65521 ∧ (l.foldl qc p).2 < 65521 := by
  intro l
  induction l with
  | nil => exact fun p h => h
  | cons c l ih => exact fun p _ => ih _ ⟨Nat.mod_lt _ (by omega), Nat.mod_lt _ (by omega)⟩
 exact h bs (1, 0) ⟨by decide, by decide⟩
end FK
namespace Go.Proofs.YtmeegfamopaljaaGreatDoor
open Go Go.RowKit Go.SL
variable {G : Env → Prop}
theorem wu32 {a : Nat} (h : a < 4294967296) : IntKind.u32.wrap (a : Int) = (a : Int) := by
 simp only [IntKind.wrap, IntKind.bits, IntKind.signed]
 simp
 omega
set_option maxRecDepth 10000 in
theorem ro {p : HP} {A : Option Addr} {bs : List UInt8} (c : Nat) (hp : Reads p A bs) (hl : bs.length ≤ 9223372036854775807) : Does Tryz.prog G 201 [.slice A bs.length c].toArray [p] fun v m => v = .int .u32 (FK.fG bs) ∧ m = [p] := by
 refine Does.body Tryz.func201 Z Z fun E fr hE => ?_
 refine ai (At.seq (At.region (L.as Z Z (L.nil (At.then (At.seq (At.region (L.as Z Z (L.as Z Z (L.nil (At.then (At.seq (At.seq (At.region (L.mv Z Z (L.pure Z (aP Z Z) (L.mv Z Z (L.nil (At.then ?_)))))))))))))))))))
 refine At.block ?_
 refine aT (X := Nat) (fun k => [(9, .int .i64 k), (8, .int .i64 bs.length), (7, .slice A bs.length c), (3, .int .u32 (FK.dF (bs.take k)).1), (4, .int .u32 (FK.dF (bs.take k)).2)]) (fun _ => p :: fr) (fun k => k ≤ bs.length) (fun k => bs.length - k) 0 (Nat.zero_le _) ⟨rfl, rfl, rfl, rfl, rfl, trivial⟩ (Ent.refl _) ?_
 intro k hk
 refine At.seq (At.region (L.pure Z (bf Z Z Z) (L.nil (At.then (At.seq ?_)))))
 refine aC Z (fun c10 => ?_) (fun c10 => ?_)
 ·
  have hlt : k < bs.length := by omega
  obtain ⟨x, hx⟩ : ∃ x, bs[k]? = some x := ⟨bs[k], by simp [hlt]⟩
  obtain ⟨g, o, hA⟩ := hp.form (by intro h; rw [h] at hlt; simp at hlt)
  subst hA
  have htk : FK.dF (bs.take (k + 1)) = FK.qc (FK.dF (bs.take k)) x := by rw [List.take_add_one, hx]; unfold FK.dF; rw [List.foldl_append]; rfl
  obtain ⟨h1, h2⟩ := FK.pL (bs.take k)
  have hx8 : x.toNat < 256 := x.toNat_lt
  refine At.skip (At.then (At.seq (At.block (At.seq (At.region (L.pure Z (bD (z := 1) Z Z Z Z hlt) ?_))))))
  refine L.val Z (aa (v := .int .u8 x.toNat) Z Z) (fun w hw => by have := hp.at (.head) Z hx w hw; simpa using this) ?_
  refine L.as Z Z (L.nil (At.then (At.seq (At.region (L.mv Z Z (L.mv Z Z ?_))))))
  refine L.pure Z (bq (r := (x.toNat : Int)) Z Z Z (wu32 (by omega))) ?_
  refine L.pure Z (aO (r := (((FK.dF (bs.take k)).1 + x.toNat : Nat) : Int)) Z Z (wu32 (by omega))) ?_
  refine L.pure Z (gO (r := ((((FK.dF (bs.take k)).1 + x.toNat) % 65521 : Nat) : Int)) Z Z (by omega) (iW (b := 65521) (by omega) (by omega))) ?_
  refine L.as Z Z (L.nil (At.then (At.region (L.mv Z Z (L.mv Z Z ?_)))))
  refine L.pure Z (aO (r := (((FK.dF (bs.take k)).2 + ((FK.dF (bs.take k)).1 + x.toNat) % 65521 : Nat) : Int)) Z Z (wu32 (by omega))) ?_
  refine L.pure Z (gO (r := ((((FK.dF (bs.take k)).2 + ((FK.dF (bs.take k)).1 + x.toNat) % 65521) % 65521 : Nat) : Int)) Z Z (by omega) (iW (b := 65521) (by omega) (by omega))) ?_
  refine L.as Z Z (L.nil (al (At.then (At.region ?_))))
  refine L.pure Z (aO (r := ((k + 1 : Nat) : Int)) Z Z (by rw [cT (by omega)]; omega)) ?_
  refine L.mv Z Z (L.nil ?_)
  exact At.round (k + 1) hlt (by omega) ⟨rfl, rfl, rfl, by rw [htk]; rfl, by rw [htk]; rfl, trivial⟩ (Ent.refl _)
 ·
  have hke : k = bs.length := by omega
  rw [hke, List.take_length]
  obtain ⟨h1, h2⟩ := FK.pL bs
  refine At.exit (au (ar (an (At.then (At.seq (At.region (L.mv Z Z ?_)))))))
  refine L.pure Z (js (r := (((FK.dF bs).2 * 65536 : Nat) : Int)) Z Z (by omega) (by rw [← wu32 (a := (FK.dF bs).2 * 65536) (by omega)]; congr 1)) ?_
  refine L.mv Z Z ?_
  refine L.pure Z (re (r := ((FK.fG bs : Nat) : Int)) Z Z (by
 rw [u32_or_nat _ _ (by omega) (by omega)]
 unfold FK.fG
 congr 1
 have := Nat.two_pow_add_eq_or_of_lt (i := 16) (b := (FK.dF bs).1) (by omega) (FK.dF bs).2
 rw [Nat.mul_comm, ← this])) ?_
  refine L.as Z Z (L.nil (At.then (At.ret ?_)))
  exact aA [_] rfl Z ⟨rfl, rfl⟩ (Ent.refl _)
end Go.Proofs.YtmeegfamopaljaaGreatDoor

namespace FK
def fF (s : Nat) : List UInt8 := [UInt8.ofNat (s / 16777216), UInt8.ofNat (s / 65536), UInt8.ofNat (s / 256), UInt8.ofNat s]
def frame (bs : List UInt8) : List UInt8 := (bz bs.length ++ bs) ++ fF (fG (bz bs.length ++ bs))
end FK
namespace Go.Proofs.YtmeegfamopaljaaGreatDoor
open Go Go.RowKit Go.SL
variable {G : Env → Prop}
theorem Reads.row {A : Option Addr} {c : Nat} {bs : List UInt8} (h : bs ≠ [] → ∃ g, A = some ⟨g, 0, none⟩) : Reads (bM (.slice A bs.length c) bs) A bs where
 form hb := let ⟨g, h⟩ := h hb; ⟨g, 0, h⟩
 cell w F hp b o hA j x hx := by
  obtain ⟨hown, _⟩ := hp
  obtain ⟨g, hg⟩ := h (by intro h; simp [h] at hx)
  rw [hA] at hg
  injection hg with hg
  injection hg with h1 h2
  subst h1; subst h2; subst hA
  have := hown.cells (g := b) rfl j (.int .u8 x.toNat) (by simp [bO, hx])
  rwa [add_plain] at this
theorem Reads.src {E : Env} {p : HP} {A : Option Addr} {bs : List UInt8} {l r : List HP} (h : Reads p A bs) (s : Sel p l r) : ∀ w, Holds E w l → uV A (bO bs) w := fun w hw ad had j u hj => by
 simp only [bO, List.getElem?_map, Option.map_eq_some_iff] at hj
 obtain ⟨x, hx, rfl⟩ := hj
 obtain ⟨b, o, hA⟩ := h.form (by intro h; simp [h] at hx)
 have := h.at s hA hx w hw
 rw [had] at hA
 injection hA with hA
 subst hA
 rw [add_plain]
 exact this
theorem pQ (s k : Nat) : (s : Int).fdiv ((2 : Int) ^ k) = ((s / 2 ^ k : Nat) : Int) := by
 rw [Int.fdiv_eq_ediv_of_nonneg _ (Int.pow_nonneg (by omega))]
 rw [show ((2 : Int) ^ k) = ((2 ^ k : Nat) : Int) from (Int.natCast_pow 2 k).symm]
 rfl
theorem fill4 (a b c d : UInt8) : Instr.fill (fun i => some (i * 1, 1)) (Array.map (fun x => (Value.int .u8 0).cells[x % (Value.int .u8 0).cells.size]!) (Array.range (4 * 1))) ((List.map (fun x => x.fst) [((0 : Nat), Operand.tmp 16), (1, .tmp 19), (2, .tmp 22), (3, .tmp 24)]).zip (bO [a, b, c, d])) = some (bO [a, b, c, d]).toArray := by
 have e1 : Array.range (4 * 1) = #[0, 1, 2, 3] := rfl
 rw [e1]
 simp [Instr.fill, Value.cells, bO]
theorem fL (m : Nat) : IntKind.u8.wrap (m : Int) = ((UInt8.ofNat m).toNat : Int) := by
 rw [← rD]
 simp [IntKind.wrap, IntKind.bits, IntKind.signed]
set_option maxRecDepth 10000 in
set_option maxHeartbeats 1000000 in
theorem sM {p : HP} {A : Option Addr} {bs : List UInt8} (c : Nat) (hp : Reads p A bs) (hA : A = none → bs = []) (hl : bs.length ≤ 1099511627776) : Does Tryz.prog G 156 [.slice A bs.length c].toArray [p] fun v m => m = [bM v (FK.frame bs), p] := by
 refine Does.body Tryz.func156 Z Z fun E fr hE => ?_
 refine ai (At.seq (At.region (L.as Z Z (L.nil (At.then (At.seq (At.region (L.mv Z Z (L.pure Z (aP Z Z) ?_)))))))))
 refine L.pure Z (bq (r := ((bs.length : Nat) : Int)) Z Z Z (by rw [lE]; omega)) ?_
 refine L.op Z (ah Z Z Z hE (ep (.slice none 0 0) [] bs.length (by omega) (by simp)) Ent.row0 ?_)
 rintro v m rfl
 refine ai ?_
 rw [List.nil_append]
 have hN : (FK.bz bs.length).length ≤ 10 := ew (by omega)
 refine L.mv Z Z ?_
 refine L.op rfl (cj rfl rfl gS rfl (by omega) rfl rfl (HasVal.sel (v := v)) (news := bO bs) (by rw [iy]; omega) (fun h => by rw [hA h]; rfl) (Reads.src hp (.tail (.head))) (by intro u hu; obtain ⟨x, _, rfl⟩ := List.mem_map.1 hu; rfl) (by unfold maxLen; omega) (by omega) fun v10 hv10 => ?_)
 refine aJ (HasVal.sel (v := v10)) ?_
 rintro A10 c10 rfl f1 f2 f3 f4 -
 refine At.ent (l' := bM (.slice A10 ((FK.bz bs.length).length + bs.length) c10) (FK.bz bs.length ++ bs) :: p :: fr) ?_ ?_
 · show Ent _ (row 5 1 _ (FK.bz bs.length ++ bs).length (bO (FK.bz bs.length ++ bs)) :: p :: fr)
   rw [List.length_append, fY]
   exact Ent.refl _
 have hlen : (FK.bz bs.length ++ bs).length = (FK.bz bs.length).length + bs.length := List.length_append
 have hform : FK.bz bs.length ++ bs ≠ [] → ∃ g, A10 = some ⟨g, 0, none⟩ := fun hne => by
  have hp := List.length_pos_iff.2 hne
  cases A10 with
  | none => have := (f1 rfl).1; omega
  | some ad => obtain ⟨g, rfl⟩ := f2 ad rfl; exact ⟨g, rfl⟩
 rw [← hlen]
 refine L.as Z Z (L.nil (At.then (At.seq (At.region (L.mv Z Z ?_)))))
 refine L.op Z (ah Z Z Z hE (ro c10 (Reads.row (c := c10) hform) (by omega)) (Ent.refl _) ?_)
 rintro v m ⟨rfl, rfl⟩
 refine ai (L.as Z Z (L.nil (At.then (At.seq ?_))))
 obtain ⟨X, hX⟩ : ∃ X, X = FK.bz bs.length ++ bs := ⟨_, rfl⟩
 have hfr : FK.frame bs = X ++ FK.fF (FK.fG X) := by rw [hX]; rfl
 rw [← hX] at hlen hform ⊢
 obtain ⟨s, hs⟩ : ∃ s, s = FK.fG X := ⟨_, rfl⟩
 rw [← hs] at hfr ⊢
 refine At.region (L.mv Z Z (L.mv Z Z ?_))
 refine L.pure Z (ed (r := ((s / 16777216 : Nat) : Int)) Z Z (by omega) (by exact pQ s 24)) ?_
 refine L.pure Z (bq (r := ((UInt8.ofNat (s / 16777216)).toNat : Int)) Z Z Z (fL _)) (L.mv Z Z ?_)
 refine L.pure Z (ed (r := ((s / 65536 : Nat) : Int)) Z Z (by omega) (by exact pQ s 16)) ?_
 refine L.pure Z (bq (r := ((UInt8.ofNat (s / 65536)).toNat : Int)) Z Z Z (fL _)) (L.mv Z Z ?_)
 refine L.pure Z (ed (r := ((s / 256 : Nat) : Int)) Z Z (by omega) (by exact pQ s 8)) ?_
 refine L.pure Z (bq (r := ((UInt8.ofNat (s / 256)).toNat : Int)) Z Z Z (fL _)) (L.mv Z Z (L.pure Z (bq (r := ((UInt8.ofNat s).toNat : Int)) Z Z Z (fL _)) ?_))
 refine L.op Z (dT (m := 4) (z := .int .u8 0) (size := 1) (ps := [(0, .tmp 16), (1, .tmp 19), (2, .tmp 22), (3, .tmp 24)]) (vs := bO (FK.fF s)) (cs := (bO (FK.fF s)).toArray) Z Z Z Z (by omega) (by omega) Z (fill4 _ _ _ _) fun b25 => ?_)
 refine L.op rfl (cj rfl rfl gS rfl (by omega) rfl rfl (HasVal.sel (v := .slice A10 X.length c10)) (news := bO (FK.fF s)) rfl (fun h => by cases h) (f6 (fun j u h => by rw [Nat.zero_add]; simpa using h)) (by intro u hu; obtain ⟨x, _, rfl⟩ := List.mem_map.1 hu; rfl) (by unfold maxLen; omega) (by omega) fun v26 hv26 => ?_)
 refine L.as Z Z (L.nil (At.then (At.ret (aA [bM v26 (FK.frame bs), p] rfl Z Z ?_))))
 rw [hfr]
 show Ent _ (row 5 1 v26 (X ++ FK.fF s).length (bO (X ++ FK.fF s)) :: p :: fr)
 rw [List.length_append, fY]
 exact Ent.cons Ent.drop
end Go.Proofs.YtmeegfamopaljaaGreatDoor

namespace FK
def gL : List UInt8 → Nat → Nat → Option (Nat × List UInt8)
 | [], _, _ => none
 | c :: r, i, n =>
  if c.toNat < 128 then some (n ||| c.toNat % 128 * 2 ^ min (7 * i) 64 % 18446744073709551616, r)
  else gL r (i + 1) (n ||| c.toNat % 128 * 2 ^ min (7 * i) 64 % 18446744073709551616)
def take (bs : List UInt8) : Option (Nat × List UInt8) := gL bs 0 0
theorem yr {a x k : Nat} (h : a < 2 ^ k) : a ||| x * 2 ^ k = a + x * 2 ^ k := by
 have := Nat.two_pow_add_eq_or_of_lt (i := k) (b := a) h x
 rw [Nat.or_comm, Nat.mul_comm, ← this, Nat.add_comm]
theorem sg (r : List UInt8) : ∀ (m i a : Nat), a < 2 ^ (7 * i) → m * 2 ^ (7 * i) + a < 18446744073709551616 → 7 * i ≤ 63 → gL (bz m ++ r) i a = some (a + m * 2 ^ (7 * i), r) := by
 intro m
 induction m using Nat.strongRecOn with
 | ind m ih =>
  intro i a ha hm hi
  have hmin : min (7 * i) 64 = 7 * i := by omega
  by_cases h : m < 128
  · rw [gy h]
    have hc : (UInt8.ofNat m).toNat = m := by simp; omega
    show gL (UInt8.ofNat m :: r) i a = _
    unfold gL
    rw [hc, if_pos h, hmin, Nat.mod_eq_of_lt h, Nat.mod_eq_of_lt (a := m * 2 ^ (7 * i)) (by omega), yr ha]
  · rw [iY h]
    have hc : (UInt8.ofNat (m % 128 + 128)).toNat = m % 128 + 128 := by simp; omega
    have hd : m = 128 * (m / 128) + m % 128 := (Nat.div_add_mod m 128).symm
    have hp : (2 : Nat) ^ (7 * (i + 1)) = 2 ^ (7 * i) * 128 := by rw [Nat.mul_add, Nat.pow_add]
    have hpos : 0 < (2 : Nat) ^ (7 * i) := Nat.two_pow_pos _
    have hlow : m % 128 * 2 ^ (7 * i) ≤ m * 2 ^ (7 * i) := Nat.mul_le_mul_right _ (Nat.mod_le _ _)
    have e1 : m / 128 * 2 ^ (7 * (i + 1)) + m % 128 * 2 ^ (7 * i) = m * 2 ^ (7 * i) := by
     rw [hp]
     conv => rhs; rw [hd, Nat.add_mul]
     rw [Nat.mul_comm (2 ^ (7 * i)) 128, ← Nat.mul_assoc, Nat.mul_comm (m / 128) 128]
    have hmod : (m % 128 + 128) % 128 = m % 128 := by omega
    show gL (UInt8.ofNat (m % 128 + 128) :: (bz (m / 128) ++ r)) i a = _
    unfold gL
    rw [hc, if_neg (by omega), hmin, hmod, Nat.mod_eq_of_lt (a := m % 128 * 2 ^ (7 * i)) (by omega), yr ha]
    have hlt : a + m % 128 * 2 ^ (7 * i) < 2 ^ (7 * (i + 1)) := by
     have h1 : m % 128 * 2 ^ (7 * i) ≤ 127 * 2 ^ (7 * i) := Nat.mul_le_mul_right _ (by omega)
     rw [hp]
     omega
    by_cases hi' : 7 * (i + 1) ≤ 63
    · rw [ih (m / 128) (by omega) (i + 1) _ hlt (by omega) hi']
      congr 2
      omega
    · have hi9 : i = 9 := by omega
      subst hi9
      omega
theorem pf {n : Nat} (h : n < 18446744073709551616) (r : List UInt8) : take (bz n ++ r) = some (n, r) := by
 unfold take
 rw [sg r n 0 0 (by omega) (by omega) (by omega)]
 simp
def next (bs : List UInt8) : Option (List UInt8 × List UInt8) :=
 match take bs with
 | none => none
 | some (n, body) =>
  if body.length < n + 4 then none
  else if (body.drop n).take 4 = fF (fG (bs.take (bs.length - body.length + n))) then some (body.take n, body.drop (n + 4)) else none
theorem ue (x r : List UInt8) (h : x.length < 18446744073709551616) : next (frame x ++ r) = some (x, r) := by
 unfold next
 have e : frame x ++ r = bz x.length ++ (x ++ (fF (fG (bz x.length ++ x)) ++ r)) := by unfold frame; simp
 have e4 : (fF (fG (bz x.length ++ x))).length = 4 := rfl
 rw [e, pf h]
 simp only
 rw [if_neg (by simp only [List.length_append]; omega)]
 have hb : (bz x.length ++ (x ++ (fF (fG (bz x.length ++ x)) ++ r))).take ((bz x.length ++ (x ++ (fF (fG (bz x.length ++ x)) ++ r))).length - (x ++ (fF (fG (bz x.length ++ x)) ++ r)).length + x.length) = bz x.length ++ x := by
  rw [← List.append_assoc]
  exact List.take_left' (by simp only [List.length_append]; omega)
 rw [hb]
 have h1 : ((x ++ (fF (fG (bz x.length ++ x)) ++ r)).drop x.length).take 4 = fF (fG (bz x.length ++ x)) := by
  rw [List.drop_left]
  exact List.take_left' rfl
 rw [if_pos h1]
 have h2 : (x ++ (fF (fG (bz x.length ++ x)) ++ r)).take x.length = x := List.take_left
 have h3 : (x ++ (fF (fG (bz x.length ++ x)) ++ r)).drop (x.length + 4) = r := by
  rw [← List.append_assoc]
  exact List.drop_left' (by simp only [List.length_append]; omega)
 rw [h2, h3]
end FK

namespace Go.SL
open Go Go.RowKit
section
variable {P : Program} {ts : List (Nat × Value)}
theorem xm {t e : TypeId} {x lo hi mx : Operand} {A : Option Addr} {len cap a b c z : Nat} {k1 k2 k3 : IntKind} (ht : P.underlying t = some (.slice e)) (hz : bZ P e z) (hx : ev ts x = some (.slice A len cap))
 (hlo : ev ts lo = some (.int k1 (a : Int))) (hhi : ev ts hi = some (.int k2 (b : Int))) (hmx : ev ts mx = some (.int k3 (c : Int))) (h1 : a ≤ b) (h2 : b ≤ c) (h3 : c ≤ cap) :
 Ev P ts (.slice t x (some lo) (some hi) (some mx)) (.slice (if c = a then A else A.map (·.add (a * z))) (b - a) (c - a)) Any := by
 intro ac w _ _ _ _ _ kn _
 simp [execOp, Instr.sliceAt, Instr.slice, run_underlying ht, kn.eval hx, kn.eval hlo, kn.eval hhi, kn.eval hmx, Instr.sliceBounds, Instr.sliceBound, asIntOf, bP hz, h1, h2, h3]
theorem yB {t e : TypeId} {x : Operand} {A : Option Addr} {len cap n : Nat} (ht : P.underlying t = some (.array n e)) (hx : ev ts x = some (.slice A len cap)) (h : n ≤ len) : Ev P ts (.sliceToArrayPointer t x) (.pointer A) Any := by
 intro ac w _ _ _ _ _ kn _
 have : ¬ len < n := by omega
 simp [execOp, Instr.arrayAt, run_underlying ht, kn.eval hx, this]
theorem pF {t e : TypeId} {n size : Nat} {z : Value} {ps : List (Nat × Operand)} {vs : List Value} {cs : Array Value} (hu : P.underlying t = some (.array n e)) (hs : bZ P e size) (hz : fq P t z)
 (hx : ou ts (ps.map (·.2)) = some vs) (hf : Instr.fill (fun i => some (i * size, size)) z.cells ((ps.map (·.1)).zip vs) = some cs) : Ev P ts (.build t ps.toArray) (.agg cs) Any := by
 intro a w _ _ _ _ _ kn _
 have he : (ps.toArray.map fun p => (p.1, a.eval p.2)).toList = (ps.map (·.1)).zip vs := by
  have := cF kn hx
  rw [← this]
  simp
  clear hx hf this
  induction ps with
  | nil => rfl
  | cons p ps ih => simp; exact ih
 simp only [execOp, Instr.build, Sem.run_bind, e9 hz, run_underlying hu, Result.andThen_ok, bP hs, he]
 simp only [Result.andThen_ok, hf, Sem.run_pure]
theorem iS {d : Nat} {e : TypeId} {k : IntKind} (he : P.underlying e = some (.int k)) {us bs : List Int} {w : World} : ∀ (is : List Nat), (∀ i ∈ is, i < us.length ∧ i < bs.length) →
 (Op.eqItems (d + 1) e 1 (us.map (Value.int k)).toArray (bs.map (Value.int k)).toArray is).run P w = .ok (is.all fun i => us[i]? == bs[i]?) w
 | [], _ => by simp [Op.eqItems]
 | i :: is, h => by
  have ih := iS (d := d) he (us := us) (bs := bs) (w := w) is fun j hj => h j (.tail _ hj)
  obtain ⟨h1, h2⟩ := h i (.head _)
  obtain ⟨a, ha⟩ : ∃ a, us[i]? = some a := ⟨us[i], by simp [h1]⟩
  obtain ⟨b, hb⟩ : ∃ b, bs[i]? = some b := ⟨bs[i], by simp [h2]⟩
  have hp : ∀ (cs : Array Value) (v : Value), cs[i * 1]? = some v → (part e cs (i * 1)).run P w = .ok v w := fun cs v hv => by
   rw [Nat.mul_one] at hv
   simp [part, isAgg, run_underlying he, hv]
  have hx : (us.map (Value.int k)).toArray[i * 1]? = some (.int k a) := by simp [ha]
  have hy : (bs.map (Value.int k)).toArray[i * 1]? = some (.int k b) := by simp [hb]
  have hq : (Op.equalIn (d + 1) e (.int k a) (.int k b)).run P w = .ok (a == b) w := run_equalIn_int w d e k k a b he
  simp only [Op.eqItems, Sem.run_bind, hp _ _ hx, hp _ _ hy, hq, Result.andThen_ok]
  have hab : (us[i]? == bs[i]?) = (a == b) := by rw [ha, hb]; rfl
  rw [List.all_cons, hab]
  cases hc : a == b with
  | true => simpa using ih
  | false => simp
theorem vE {t t' e : TypeId} {n : Nat} {k : IntKind} {i : TypeInfo} {x y : Operand} {us bs : List Int} {r : Bool} (ht : P.underlying t = some (.array n e)) (hi : P.info? e = some i) (he : P.underlying e = some (.int k)) (hc : P.cellsOf e = 1) (hm : P.eqGuardType P.depth t = false)
 (hx : ev ts x = some (.agg (us.map (Value.int k)).toArray)) (hy : ev ts y = some (.agg (bs.map (Value.int k)).toArray)) (ha : us.length = n) (hb : bs.length = n) (hr : decide (us ≠ bs) = r) :
 Ev P ts (.binOp .neq t x y t') (.bool r) Any := by
 intro ac w _ _ _ _ _ kn _
 subst hr
 refine dp (kn.eval hx) (kn.eval hy) (run_eqGuard_agg w _ _ _ _ _ _ hm) ?_
 rw [run_neq_struct, run_equalIn_array (d := 9999) (w := w) (P := P) _ _ ht hi, hc, iS (d := 9998) he (List.range n) (fun j hj => by have := List.mem_range.1 hj; omega), Result.andThen_ok]
 congr 2
 have : ((List.range n).all fun i => us[i]? == bs[i]?) = decide (us = bs) := by
  rw [Bool.eq_iff_iff, List.all_eq_true]
  simp only [decide_eq_true_eq, beq_iff_eq]
  constructor
  · intro h
    refine List.ext_getElem? fun j => ?_
    by_cases hj : j < n
    · exact h j (List.mem_range.2 hj)
    · rw [List.getElem?_eq_none (by omega), List.getElem?_eq_none (by omega)]
  · intro h j _
    rw [h]
 rw [this]
 by_cases h : us = bs <;> simp [h]
end
end Go.SL
namespace Go.Proofs.YtmeegfamopaljaaGreatDoor
open Go Go.RowKit Go.SL
theorem gV (b o k : Nat) : (⟨b, o, none⟩ : Addr).add k = ⟨b, o + k, none⟩ := by
 unfold Addr.add
 by_cases h : k = 0 <;> simp [h]
theorem Reads.sub {p : HP} {A A' : Option Addr} {bs : List UInt8} {k n : Nat} (h : Reads p A bs) (hA : (bs.drop k).take n ≠ [] → A' = A.map (·.add k)) : Reads p A' ((bs.drop k).take n) where
 form hne := by
  have hbs : bs ≠ [] := by intro e; rw [e] at hne; simp at hne
  obtain ⟨b, o, rfl⟩ := h.form hbs
  exact ⟨b, o + k, by rw [hA hne, Option.map_some, gV]⟩
 cell w F hs b o he j x hx := by
  have hne : (bs.drop k).take n ≠ [] := by intro e; rw [e] at hx; simp at hx
  have hbs : bs ≠ [] := by intro e; rw [e] at hne; simp at hne
  obtain ⟨b0, o0, rfl⟩ := h.form hbs
  rw [hA hne] at he
  have he' : (⟨b0, o0 + k, none⟩ : Addr) = ⟨b, o, none⟩ := by rw [Option.map_some, gV] at he; exact Option.some.inj he
  injection he' with e1 e2
  subst e1; subst e2
  have hx' : bs[k + j]? = some x := by
   rw [List.getElem?_take] at hx
   split at hx
   · rw [List.getElem?_drop] at hx; exact hx
   · cases hx
  rw [Nat.add_assoc]
  exact h.cell w F hs b0 o0 Z (k + j) x hx'
theorem Reads.dropk {p : HP} {A A' : Option Addr} {bs : List UInt8} {k : Nat} (h : Reads p A bs) (hA : bs.drop k ≠ [] → A' = A.map (·.add k)) : Reads p A' (bs.drop k) := by
 have := h.sub (k := k) (n := bs.length) (A' := A') (fun hne => hA (by intro e; rw [e] at hne; simp at hne))
 rwa [List.take_of_length_le (by simp)] at this
theorem Reads.rowAt {E : Env} {p : HP} {A : Option Addr} {bs : List UInt8} {l r : List HP} {b o k n : Nat} (h : Reads p A bs) (s : Sel p l r) (hA : A = some ⟨b, o, none⟩) : ∀ w, Holds E w l → gK b (o + k) (bO ((bs.drop k).take n)) w := fun w hw j v hv => by
 unfold bO at hv
 rw [List.getElem?_map] at hv
 cases hx : ((bs.drop k).take n)[j]? with
 | none => rw [hx] at hv; cases hv
 | some x =>
  rw [hx] at hv
  injection hv with hv
  subst hv
  have hx' : bs[k + j]? = some x := by
   rw [List.getElem?_take] at hx
   split at hx
   · rw [List.getElem?_drop] at hx; exact hx
   · cases hx
  have := h.at s hA hx' w hw
  rw [Nat.add_assoc]
  exact this
end Go.Proofs.YtmeegfamopaljaaGreatDoor

namespace Go.Proofs.YtmeegfamopaljaaGreatDoor
open Go Go.RowKit Go.SL
variable {G : Env → Prop}
abbrev vR (A : Option Addr) (n c k : Nat) : Value := .slice (if c = k then A else A.map (·.add (k * 1))) (n - k) (c - k)
theorem zQ {b o c k : Nat} : ∃ o', (if c = k then some (⟨b, o, none⟩ : Addr) else (some (⟨b, o, none⟩ : Addr)).map (·.add (k * 1))) = some ⟨b, o', none⟩ := by
 split
 · exact ⟨o, rfl⟩
 · exact ⟨o + k * 1, by rw [Option.map_some, gV]⟩
theorem Reads.cut {p : HP} {A : Option Addr} {bs : List UInt8} {c k : Nat} (h : Reads p A bs) (hc : bs.length ≤ c) : Reads p (if c = k then A else A.map (·.add (k * 1))) (bs.drop k) :=
 h.dropk fun hne => by
  have hlt : k < bs.length := by
   refine Nat.lt_of_not_le fun hle => hne (List.drop_eq_nil_of_le hle)
  rw [if_neg (by omega), Nat.mul_one]
theorem wu64n {a : Nat} : IntKind.u64.wrap (a : Int) = ((a % 18446744073709551616 : Nat) : Int) := by
 simp [IntKind.wrap, IntKind.bits, IntKind.signed]
theorem in64 {n : Int} (h1 : 0 ≤ n) (h2 : n < 2 ^ 64) : IntKind.u64.wrap n = n := by
 have : (2 : Int) ^ 64 = 18446744073709551616 := by decide
 exact SL.wu64 ⟨h1, by omega⟩
theorem or64 {a b : Nat} (ha : a < 18446744073709551616) (hb : b < 18446744073709551616) : bits .or .u64 (a : Int) (b : Int) = ((a ||| b : Nat) : Int) :=
 (bits_nat .u64 64 (by decide) (fun _ h1 h2 => in64 h1 h2) a b (by omega) (by omega)).2
def zV (A : Option Addr) (c : Nat) (bs : List UInt8) (v : Value) : Prop :=
 (FK.take bs = none ∧ v = .tuple #[.int .u64 0, .slice none 0 0]) ∨ ∃ n k, FK.take bs = some (n, bs.drop k) ∧ k ≤ bs.length ∧ n < 18446744073709551616 ∧ v = .tuple #[.int .u64 n, vR A bs.length c k]
set_option maxRecDepth 10000 in
theorem lK {p : HP} {A : Option Addr} {bs : List UInt8} {c : Nat} (hp : Reads p A bs) (hc : bs.length ≤ c) (hl : bs.length ≤ 140737488355328) : Does Tryz.prog G 173 [.slice A bs.length c].toArray [p] fun v m => zV A c bs v ∧ m = [p] := by
 refine Does.body Tryz.func173 Z Z fun E fr hE => ?_
 refine ai (At.seq (At.region (L.as Z Z (L.as Z Z (L.nil (At.then (At.seq (At.region (L.as Z Z (L.nil (At.then (At.seq (At.seq (At.region (L.mv Z Z (L.pure Z (aP Z Z) (L.mv Z Z (L.nil (At.then ?_)))))))))))))))))))
 refine At.block ?_
 refine aT (X := Nat × Nat) (fun x => [(9, .int .i64 x.1), (8, .int .i64 bs.length), (7, .slice A bs.length c), (4, .int .u64 x.2), (0, .slice A bs.length c)]) (fun _ => p :: fr) (fun x => x.1 ≤ bs.length ∧ x.2 < 18446744073709551616 ∧ FK.take bs = FK.gL (bs.drop x.1) x.1 x.2) (fun x => bs.length - x.1) (0, 0) ⟨Nat.zero_le _, by omega, rfl⟩ ⟨rfl, rfl, rfl, rfl, rfl, trivial⟩ (Ent.refl _) ?_
 rintro ⟨k, a⟩ ⟨hk, ha, ht⟩
 simp only at hk ha ht
 refine At.seq (At.region (L.pure Z (bf Z Z Z) (L.nil (At.then (At.seq ?_)))))
 refine aC Z (fun c10 => ?_) (fun c10 => ?_)
 ·
  have hlt : k < bs.length := by have : (k : Int) < (bs.length : Int) := c10; omega
  obtain ⟨x, hx⟩ : ∃ x, bs[k]? = some x := ⟨bs[k], by simp [hlt]⟩
  obtain ⟨g, o, hA⟩ := hp.form (by intro h; rw [h] at hlt; simp at hlt)
  subst hA
  have hx8 : x.toNat < 256 := x.toNat_lt
  have hd : bs.drop k = x :: bs.drop (k + 1) := by
   obtain ⟨h1, rfl⟩ := List.getElem?_eq_some_iff.1 hx
   exact List.drop_eq_getElem_cons h1
  have hb : x.toNat % 128 * 2 ^ min (7 * k) 64 % 18446744073709551616 < 18446744073709551616 := Nat.mod_lt _ (by omega)
  have hn' : a ||| x.toNat % 128 * 2 ^ min (7 * k) 64 % 18446744073709551616 < 18446744073709551616 := Nat.or_lt_two_pow (n := 64) ha hb
  refine At.skip (At.then (At.seq (At.block (At.seq (At.region (L.mv Z Z (L.pure Z (bD (z := 1) Z Z Z Z hlt) ?_)))))))
  refine L.val Z (aa (v := .int .u8 x.toNat) Z Z) (fun w hw => by have := hp.at (.head) Z hx w hw; simpa using this) ?_
  refine L.as Z Z (L.as Z Z (L.nil (At.then (At.seq (At.region (L.mv Z Z (L.mv Z Z (L.pure Z (p9 (r := ((x.toNat % 128 : Nat) : Int)) Z Z (vL _ hx8)) ?_))))))))
  refine L.pure Z (bq (r := ((x.toNat % 128 : Nat) : Int)) Z Z Z (wu64 (by omega))) ?_
  refine L.mv Z Z ?_
  refine L.pure Z (lF (r := ((7 * k : Nat) : Int)) Z Z (by rw [cT (by omega)]; omega)) ?_
  refine L.pure Z (js (r := ((x.toNat % 128 * 2 ^ min (7 * k) 64 % 18446744073709551616 : Nat) : Int)) Z Z (by omega) (by rw [Int.toNat_natCast, ← wu64n]; congr 1)) ?_
  refine L.pure Z (re (r := ((a ||| x.toNat % 128 * 2 ^ min (7 * k) 64 % 18446744073709551616 : Nat) : Int)) Z Z (or64 ha hb)) ?_
  refine L.as Z Z (L.nil (At.then (At.seq (At.region (L.mv Z Z (L.pure Z (bf Z Z Z) (L.nil (At.then ?_))))))))
  refine aC Z (fun c23 => ?_) (fun c23 => ?_)
  ·
   have hs : x.toNat < 128 := by have : ((x.toNat : Nat) : Int) < 128 := c23; omega
   have hres : FK.take bs = some (a ||| x.toNat % 128 * 2 ^ min (7 * k) 64 % 18446744073709551616, bs.drop (k + 1)) := by
    rw [ht, hd, FK.gL, if_pos hs]
   refine At.seq (Dr.start Z (dP 0 Z Z (ag Z) (dP 1 Z Z (ag Z) (dP 2 Z Z (ag Z) ?_))))
   refine dP 3 Z Z (aO (r := ((k + 1 : Nat) : Int)) Z Z (by rw [cT (by omega)]; omega)) ?_
   refine dP 4 Z Z (cM (z := 1) (a := k + 1) (b := bs.length) Z Z Z ⟨_, rfl⟩ rfl (by omega) (by omega)) ?_
   refine dP 5 Z Z (az Z) (dP 6 Z Z (az Z) (dE (At.then (At.ret (aB (aI (bT (aB (aI ?_)))))))))
   exact dd [p] rfl Z Z ⟨.inr ⟨_, k + 1, hres, by omega, hn', rfl⟩, rfl⟩ (Ent.refl _)
  ·
   have hs : ¬ x.toNat < 128 := by have : ¬ ((x.toNat : Nat) : Int) < 128 := c23; omega
   have hres2 : FK.take bs = FK.gL (bs.drop (k + 1)) (k + 1) (a ||| x.toNat % 128 * 2 ^ min (7 * k) 64 % 18446744073709551616) := by
    rw [ht, hd, FK.gL, if_neg hs]
   refine At.skip (al (At.then (At.region ?_)))
   refine L.pure Z (aO (r := ((k + 1 : Nat) : Int)) Z Z (by rw [cT (by omega)]; omega)) ?_
   refine L.mv Z Z (L.nil ?_)
   exact At.round (k + 1, _) ⟨by show k + 1 ≤ bs.length; omega, hn', hres2⟩ (by show bs.length - (k + 1) < bs.length - k; omega) ⟨rfl, rfl, rfl, rfl, rfl, trivial⟩ (Ent.refl _)
 ·
  have hke : k = bs.length := by have : ¬ (k : Int) < (bs.length : Int) := c10; omega
  refine At.exit (au (ar (an (At.then (At.seq (At.region (L.as Z Z (L.as Z Z (L.nil (At.then (At.ret ?_)))))))))))
  exact dd [p] rfl Z Z ⟨.inl ⟨by rw [ht, hke, List.drop_length]; rfl, rfl⟩, rfl⟩ (Ent.refl _)
theorem cut0 {g o n c : Nat} : Value.slice (if c = 0 then some (⟨g, o, none⟩ : Addr) else (some (⟨g, o, none⟩ : Addr)).map (·.add (0 * 1))) (n - 0) (c - 0) = .slice (some ⟨g, o, none⟩) n c := by
 rw [Option.map_some, gV]
 simp
theorem Reads.head {p : HP} {g o : Nat} {bs : List UInt8} (h : Reads p (some ⟨g, o, none⟩) bs) (n : Nat) : Reads p (some ⟨g, o, none⟩) (bs.take n) := by
 have := h.sub (k := 0) (n := n) (A' := some ⟨g, o, none⟩) (fun _ => by rw [Option.map_some, gV]; rfl)
 rwa [List.drop_zero] at this
def uI (x : UInt8) : Int := x.toNat
theorem rU (l : List UInt8) : bO l = (l.map uI).map (Value.int .u8) := by
 unfold bO
 rw [List.map_map]
 rfl
theorem yg : ∀ {l m : List UInt8}, l.map uI = m.map uI → l = m
 | [], [], _ => rfl
 | [], _ :: _, h => by cases h
 | _ :: _, [], h => by cases h
 | x :: l, y :: m, h => by
  injection h with h1 h2
  have h1 : (x.toNat : Int) = y.toNat := h1
  rw [yg h2, UInt8.toNat_inj.1 (by omega : x.toNat = y.toNat)]
theorem By (a b c d : UInt8) : Instr.fill (fun i => some (i * 1, 1)) (Value.agg #[.int .u8 0, .int .u8 0, .int .u8 0, .int .u8 0]).cells ((List.map (fun x => x.fst) [((0 : Nat), Operand.tmp 54), (1, .tmp 57), (2, .tmp 60), (3, .tmp 62)]).zip (([a, b, c, d].map uI).map (Value.int .u8))) = some (([a, b, c, d].map uI).map (Value.int .u8)).toArray := by
 simp [Instr.fill, Value.cells]
theorem yA : Tryz.prog.eqGuardType Tryz.prog.depth 345 = false := by kernel_rfl
theorem AG {bs : List UInt8} {n k s : Nat} (ht : FK.take bs = some (n, bs.drop k)) (hk : k ≤ bs.length) (hb : n + 4 ≤ bs.length - k) (hs : s = FK.fG (bs.take (k + n))) : FK.next bs = if (bs.drop (k + n)).take 4 = FK.fF s then some ((bs.drop k).take n, bs.drop (k + n + 4)) else none := by
 unfold FK.next
 rw [ht]
 simp only
 rw [if_neg (by rw [List.length_drop]; omega), List.length_drop, show bs.length - (bs.length - k) + n = k + n by omega, List.drop_drop, List.drop_drop, hs]
 rfl
def zX (p : HP) (bs : List UInt8) (v : Value) : Prop :=
 (FK.next bs = none ∧ v = .tuple #[.slice none 0 0, .slice none 0 0, .bool false]) ∨
  ∃ x r A1 c1 A2 c2, FK.next bs = some (x, r) ∧ v = .tuple #[.slice A1 x.length c1, .slice A2 r.length c2, .bool true] ∧ Reads p A1 x ∧ x.length ≤ c1 ∧ Reads p A2 r ∧ r.length ≤ c2
set_option maxRecDepth 10000 in
set_option maxHeartbeats 1000000 in
theorem wN {p : HP} {A : Option Addr} {bs : List UInt8} {c : Nat} (hp : Reads p A bs) (hc : bs.length ≤ c) (hl : bs.length ≤ 140737488355328) : Does Tryz.prog G 171 [.slice A bs.length c].toArray [p] fun v m => zX p bs v ∧ m = [p] := by
 refine Does.body Tryz.func171 Z Z fun E fr hE => ?_
 refine ai (At.seq (At.region (L.as Z Z (L.as Z Z (L.as Z Z (L.nil (At.then (At.seq ?_))))))))
 by_cases HT : FK.take bs = none
 ·
  refine At.region (L.mv Z Z (L.op Z (ah Z Z Z hE (lK hp hc hl) (Ent.refl _) ?_)))
  rintro v m ⟨hv, rfl⟩
  refine ai ?_
  obtain rfl : v = .tuple #[.int .u64 0, .slice none 0 0] := by
   rcases hv with ⟨_, h⟩ | ⟨n, k, h, _⟩
   · exact h
   · rw [HT] at h; cases h
  refine L.mv Z Z (L.ex Z Z Z (L.ex Z Z Z (L.as Z Z (L.as Z Z (L.nil (At.then (At.seq (At.region (L.mv Z Z (L.pure Z (aP Z Z) (L.mv Z Z (L.pure Z (aP Z Z) ?_))))))))))))
  refine L.pure Z (eQ (r := (bs.length : Int)) Z Z (by rw [cT (by omega)]; omega)) ?_
  refine L.as Z Z (L.nil (At.then (At.seq (At.seq (At.region (L.mv Z Z (L.pure Z (i8 Z Z Z) (L.mv Z Z (L.off Z Z Z Z Z Z (L.off Z Z Z Z Z Z (L.off Z Z Z Z Z Z (L.off Z Z Z Z Z Z (L.off Z Z Z Z Z Z (L.pure Z (aM Z Z Z) (L.mv Z Z (L.off Z Z Z Z Z Z (L.off Z Z Z Z Z Z (L.off Z Z Z Z Z Z (L.off Z Z Z Z Z Z ?_)))))))))))))))))))
  refine L.off Z Z Z Z Z Z (L.off Z Z Z Z Z Z (L.pure Z (aM Z Z Z) (L.nil (At.then (aR Z (At.seq (At.region (L.as Z Z (L.as Z Z (L.as Z Z (L.nil (At.then (At.ret (aI ?_))))))))))))))
  exact fW [p] rfl Z Z Z ⟨.inl ⟨by unfold FK.next; rw [HT], rfl⟩, rfl⟩ (Ent.refl _)
 ·
  refine At.region (L.mv Z Z (L.op Z (ah Z Z Z hE (lK hp hc hl) (Ent.refl _) ?_)))
  rintro v m ⟨hv, rfl⟩
  refine ai ?_
  obtain ⟨n, k, ht, hk, hn, rfl⟩ : ∃ n k, FK.take bs = some (n, bs.drop k) ∧ k ≤ bs.length ∧ n < 18446744073709551616 ∧ v = .tuple #[.int .u64 n, vR A bs.length c k] := by
   rcases hv with ⟨h, _⟩ | h
   · exact absurd h HT
   · exact h
  obtain ⟨g, o, rfl⟩ := hp.form (by rintro rfl; exact HT rfl)
  obtain ⟨o', ho'⟩ := zQ (b := g) (o := o) (c := c) (k := k)
  have hnone : ¬ n + 4 ≤ bs.length - k → FK.next bs = none := fun h => by unfold FK.next; rw [ht]; simp only; rw [if_pos (by rw [List.length_drop]; omega)]
  rw [show vR (some ⟨g, o, none⟩) bs.length c k = .slice (some ⟨g, o', none⟩) (bs.length - k) (c - k) by unfold vR; rw [ho']]
  refine L.mv Z Z (L.ex Z Z Z (L.ex Z Z Z (L.as Z Z (L.as Z Z (L.nil (At.then (At.seq (At.region (L.mv Z Z (L.pure Z (aP Z Z) (L.mv Z Z (L.pure Z (aP Z Z) ?_))))))))))))
  refine L.pure Z (eQ (r := ((k : Nat) : Int)) Z Z (by rw [cT (by omega)]; omega)) ?_
  refine L.as Z Z (L.nil (At.then (At.seq (At.seq ?_))))
  by_cases HA : n ≤ bs.length - k
  ·
   by_cases HB : n + 4 ≤ bs.length - k
   ·
    refine At.region (L.mv Z Z (L.pure Z (i8 Z Z Z) (L.mv Z Z (lT Z Z Z (ag Z) (lT Z Z Z (ag Z) (lT Z Z Z (aP Z Z) ?_))))))
    refine lT Z Z Z (bq Z Z Z (wu64 (by omega))) ?_
    refine lT Z Z Z (dZ (r := false) Z Z (by simp; omega)) ?_
    refine L.pure Z (aM Z Z Z) (L.mv Z Z (lT Z Z Z (ag Z) (lT Z Z Z (aP Z Z) ?_)))
    refine lT Z Z Z (bq Z Z Z (wu64 (by omega))) ?_
    refine lT Z Z Z (ag Z) ?_
    refine lT Z Z Z (eQ (r := ((bs.length - k - n : Nat) : Int)) Z Z (by rw [SL.wu64 (by omega)]; omega)) ?_
    refine lT Z Z Z (bf (r := false) Z Z (by simp; omega)) ?_
    refine L.pure Z (aM Z Z Z) (L.nil (At.then (aj Z (At.skip (At.then (At.seq (At.region (L.mv Z Z (L.mv Z Z ?_)))))))))
    refine L.pure Z (bq (r := (n : Int)) Z Z Z (cT (by omega))) ?_
    refine L.pure Z (aO (r := ((k + n : Nat) : Int)) Z Z (by rw [cT (by omega)]; omega)) ?_
    refine L.as Z Z (L.nil (At.then (At.seq ?_)))
    have hlen : (bs.take (k + n)).length = k + n := by rw [List.length_take]; omega
    obtain ⟨s, hs⟩ : ∃ s, s = FK.fG (bs.take (k + n)) := ⟨_, rfl⟩
    have hsum : Does Tryz.prog G 201 [.slice (some ⟨g, o, none⟩) (k + n) c].toArray [p] fun v m => v = .int .u32 s ∧ m = [p] := by
     have h := ro (G := G) c (hp.head (k + n)) (by omega)
     rw [hlen, ← hs] at h
     exact h
    have hnext : FK.next bs = if (bs.drop (k + n)).take 4 = FK.fF s then some ((bs.drop k).take n, bs.drop (k + n + 4)) else none := AG ht hk HB hs
    refine At.region (L.mv Z Z (L.mv Z Z ?_))
    refine L.pure Z (cM (z := 1) (a := 0) (b := k + n) Z Z Z Z ⟨_, rfl⟩ (by omega) (by omega)) ?_
    rw [cut0]
    refine L.op Z (ah Z Z Z hE hsum (Ent.refl _) ?_)
    rintro v m ⟨rfl, rfl⟩
    refine ai (L.as Z Z (L.nil (At.then (At.seq (At.seq ?_)))))
    by_cases HS : (bs.drop (k + n)).take 4 = FK.fF s
    ·
     refine At.region (L.mv Z Z (L.mv Z Z (L.mv Z Z ?_)))
     refine L.pure Z (aO (r := ((k + n + 4 : Nat) : Int)) Z Z (by rw [cT (by omega)]; omega)) ?_
     refine L.pure Z (cM (z := 1) (a := k + n) (b := k + n + 4) Z Z Z ⟨_, rfl⟩ ⟨_, rfl⟩ (by omega) (by omega)) ?_
     rw [if_neg (show ¬ c = k + n by omega), Option.map_some, gV, Nat.mul_one]
     refine L.pure Z (yB (n := 4) Z Z (by omega)) ?_
     refine L.val Z (am (n := 4) (vs := (((bs.drop (k + n)).take 4).map uI).map (Value.int .u8)) Z Z (by simp; omega) Z) (fun w hw => by rw [← rU]; exact hp.rowAt .head Z w hw) ?_
     refine L.mv Z Z ?_
     refine L.pure Z (ed (r := ((s / 16777216 : Nat) : Int)) Z Z (by omega) (by exact pQ s 24)) ?_
     refine L.pure Z (bq (r := ((UInt8.ofNat (s / 16777216)).toNat : Int)) Z Z Z (fL _)) (L.mv Z Z ?_)
     refine L.pure Z (ed (r := ((s / 65536 : Nat) : Int)) Z Z (by omega) (by exact pQ s 16)) ?_
     refine L.pure Z (bq (r := ((UInt8.ofNat (s / 65536)).toNat : Int)) Z Z Z (fL _)) (L.mv Z Z ?_)
     refine L.pure Z (ed (r := ((s / 256 : Nat) : Int)) Z Z (by omega) (by exact pQ s 8)) ?_
     refine L.pure Z (bq (r := ((UInt8.ofNat (s / 256)).toNat : Int)) Z Z Z (fL _)) (L.mv Z Z (L.pure Z (bq (r := ((UInt8.ofNat s).toNat : Int)) Z Z Z (fL _)) (L.pure Z (pF (size := 1) (ps := [(0, .tmp 54), (1, .tmp 57), (2, .tmp 60), (3, .tmp 62)]) (vs := ((FK.fF s).map uI).map (Value.int .u8)) (cs := (((FK.fF s).map uI).map (Value.int .u8)).toArray) Z Z Z Z (By _ _ _ _)) ?_)))
     refine L.pure Z (vE (n := 4) (us := ((bs.drop (k + n)).take 4).map uI) (bs := (FK.fF s).map uI) (r := false) Z Z Z Z yA Z Z (by simp; omega) Z (by rw [HS]; simp)) ?_
     refine L.nil (At.then (aj Z (At.skip (At.then (At.seq (Dr.start Z (dP 0 Z Z (ag Z) (dP 1 Z Z (ag Z) (dP 2 Z Z (ag Z) (dP 3 Z Z (ag Z) ?_))))))))))
     refine dP 4 Z Z (xm (z := 1) (a := k) (b := k + n) (c := k + n) Z Z Z Z Z Z (by omega) (Nat.le_refl _) (by omega)) ?_
     refine dP 5 Z Z (ag Z) (dP 6 Z Z (ag Z) ?_)
     refine dP 7 Z Z (aO (r := ((k + n + 4 : Nat) : Int)) Z Z (by rw [cT (by omega)]; omega)) ?_
     refine dP 8 Z Z (cM (z := 1) (a := k + n + 4) (b := bs.length) Z Z Z ⟨_, rfl⟩ rfl (by omega) (by omega)) ?_
     refine dP 9 Z Z (az Z) (dP 10 Z Z (az Z) (dP 11 Z Z (az Z) (dE (At.then (At.ret ?_)))))
     have hx1 : ((bs.drop k).take n).length = k + n - k := by rw [List.length_take, List.length_drop]; omega
     have hx2 : (bs.drop (k + n + 4)).length = bs.length - (k + n + 4) := List.length_drop
     refine fW [p] rfl Z Z Z ⟨.inr ⟨(bs.drop k).take n, bs.drop (k + n + 4), _, _, _, _, by rw [hnext, if_pos HS], by rw [hx1, hx2], ?_, by omega, hp.cut hc, by omega⟩, rfl⟩ (Ent.refl _)
     exact hp.sub fun hne => by rw [if_neg (fun h => hne (by rw [show n = 0 by omega, List.take_zero])), Nat.mul_one]
    ·
     refine At.region (L.mv Z Z (L.mv Z Z (L.mv Z Z ?_)))
     refine L.pure Z (aO (r := ((k + n + 4 : Nat) : Int)) Z Z (by rw [cT (by omega)]; omega)) ?_
     refine L.pure Z (cM (z := 1) (a := k + n) (b := k + n + 4) Z Z Z ⟨_, rfl⟩ ⟨_, rfl⟩ (by omega) (by omega)) ?_
     rw [if_neg (show ¬ c = k + n by omega), Option.map_some, gV, Nat.mul_one]
     refine L.pure Z (yB (n := 4) Z Z (by omega)) ?_
     refine L.val Z (am (n := 4) (vs := (((bs.drop (k + n)).take 4).map uI).map (Value.int .u8)) Z Z (by simp; omega) Z) (fun w hw => by rw [← rU]; exact hp.rowAt .head Z w hw) ?_
     refine L.mv Z Z ?_
     refine L.pure Z (ed (r := ((s / 16777216 : Nat) : Int)) Z Z (by omega) (by exact pQ s 24)) ?_
     refine L.pure Z (bq (r := ((UInt8.ofNat (s / 16777216)).toNat : Int)) Z Z Z (fL _)) (L.mv Z Z ?_)
     refine L.pure Z (ed (r := ((s / 65536 : Nat) : Int)) Z Z (by omega) (by exact pQ s 16)) ?_
     refine L.pure Z (bq (r := ((UInt8.ofNat (s / 65536)).toNat : Int)) Z Z Z (fL _)) (L.mv Z Z ?_)
     refine L.pure Z (ed (r := ((s / 256 : Nat) : Int)) Z Z (by omega) (by exact pQ s 8)) ?_
     refine L.pure Z (bq (r := ((UInt8.ofNat (s / 256)).toNat : Int)) Z Z Z (fL _)) (L.mv Z Z (L.pure Z (bq (r := ((UInt8.ofNat s).toNat : Int)) Z Z Z (fL _)) (L.pure Z (pF (size := 1) (ps := [(0, .tmp 54), (1, .tmp 57), (2, .tmp 60), (3, .tmp 62)]) (vs := ((FK.fF s).map uI).map (Value.int .u8)) (cs := (((FK.fF s).map uI).map (Value.int .u8)).toArray) Z Z Z Z (By _ _ _ _)) ?_)))
     refine L.pure Z (vE (n := 4) (us := ((bs.drop (k + n)).take 4).map uI) (bs := (FK.fF s).map uI) (r := true) Z Z Z Z yA Z Z (by simp; omega) Z (by simp only [decide_eq_true_eq]; exact fun h => HS (yg h))) ?_
     refine L.nil (At.then (aR Z (At.seq (At.region (L.as Z Z (L.as Z Z (L.as Z Z (L.nil (At.then (At.ret (aI ?_)))))))))))
     exact fW [p] rfl Z Z Z ⟨.inl ⟨by rw [hnext, if_neg HS], rfl⟩, rfl⟩ (Ent.refl _)
   ·
    refine At.region (L.mv Z Z (L.pure Z (i8 Z Z Z) (L.mv Z Z (lT Z Z Z (ag Z) (lT Z Z Z (ag Z) (lT Z Z Z (aP Z Z) ?_))))))
    refine lT Z Z Z (bq Z Z Z (wu64 (by omega))) ?_
    refine lT Z Z Z (dZ (r := false) Z Z (by simp; omega)) ?_
    refine L.pure Z (aM Z Z Z) (L.mv Z Z (lT Z Z Z (ag Z) (lT Z Z Z (aP Z Z) ?_)))
    refine lT Z Z Z (bq Z Z Z (wu64 (by omega))) ?_
    refine lT Z Z Z (ag Z) ?_
    refine lT Z Z Z (eQ (r := ((bs.length - k - n : Nat) : Int)) Z Z (by rw [SL.wu64 (by omega)]; omega)) ?_
    refine lT Z Z Z (bf (r := true) Z Z (by simp; omega)) ?_
    refine L.pure Z (aM Z Z Z) (L.nil (At.then (aR Z (At.seq (At.region (L.as Z Z (L.as Z Z (L.as Z Z (L.nil (At.then (At.ret (aI ?_))))))))))))
    exact fW [p] rfl Z Z Z ⟨.inl ⟨by rw [hnone (by omega)], rfl⟩, rfl⟩ (Ent.refl _)
  ·
   refine At.region (L.mv Z Z (L.pure Z (i8 Z Z Z) (L.mv Z Z (lT Z Z Z (ag Z) (lT Z Z Z (ag Z) (lT Z Z Z (aP Z Z) ?_))))))
   refine lT Z Z Z (bq Z Z Z (wu64 (by omega))) ?_
   refine lT Z Z Z (dZ (r := true) Z Z (by simp; omega)) ?_
   refine L.pure Z (aM Z Z Z) (L.mv Z Z (L.off Z Z Z Z Z Z (L.off Z Z Z Z Z Z (L.off Z Z Z Z Z Z (L.off Z Z Z Z Z Z (L.off Z Z Z Z Z Z (L.off Z Z Z Z Z Z (L.pure Z (aM Z Z Z) (L.nil (At.then (aR Z (At.seq (At.region (L.as Z Z (L.as Z Z (L.as Z Z (L.nil (At.then (At.ret ?_)))))))))))))))))))
   refine aI ?_
   exact fW [p] rfl Z Z Z ⟨.inl ⟨by rw [hnone (by omega)], rfl⟩, rfl⟩ (Ent.refl _)
end Go.Proofs.YtmeegfamopaljaaGreatDoor

namespace Go.SL
open Go Go.RowKit
section
variable {P : Program} {E : Env} {n : Nat} {D : List Deferred} {ts : List (Nat × Value)} {l : List HP} {ops : Array Oper} {Q : Exit → Act → World → Prop} {rest : List Oper} {i : Nat} {ty : TypeId} {pos : String} {af : Array Edge} {g : Option (Nat × Bool)}
theorem evAs {op : Op} {v v' : Value} {φ : World → Prop} (h : Ev P ts op v φ) (e : v = v') : Ev P ts op v' φ := e ▸ h
theorem vF {t t' : TypeId} {x : Operand} {p : Option Addr} {m c : Nat} (ht : P.underlying t = some (.slice t')) (hx : ev ts x = some (.slice p m c)) : Ev P ts (.call { callee := .builtin .cap, args := #[x], argTypes := #[t] }) (.int .i64 c) Any := by
 intro a w _ _ _ _ _ kn _
 simp [execOp, resolve, invoke, builtin, Builtin.cap_, kn.eval hx, run_underlying ht, goInt]
theorem B1 {s x : Operand} {t tn e : TypeId} {z : Value} {bytes : Nat} {kn : IntKind} {k : Nat} {K : Act → World → Prop} (hi : Nat.blt i n = true) (ht : P.underlying t = some (.slice e)) (htn : P.underlying tn = some (.int kn)) (hel : fx P e z 1 bytes) (hzs : z.cells.size = 1)
 (hs : ev ts s = some (.slice none 0 0)) (hx : ev ts x = some (.int .i64 k)) (h0 : 0 < k) (hm : k ≤ maxLen) (hb : k * bytes ≤ 140737488355328)
 (h : ∀ b cap, k ≤ cap → At E n D ((i, .slice (some ⟨b, 0, none⟩) k cap) :: ts) (row e 1 (.slice (some ⟨b, 0, none⟩) 0 cap) 0 [] :: l) K) :
 At E n D ts l (fun a w => (Oper.mk (some i) (.call { callee := .builtin .append, args := #[s, x], argTypes := #[t, tn] }) ty pos af g).wp P a w K Q) := fun a w f hw => by
 obtain ⟨ti, hti, e0, e1, e2⟩ := info_parts hel
 have hold : (Builtin.firstCells ti.size 0 (.slice none 0 0)).run P w.drew = .ok ([] : List Value).toArray w.drew := rfl
 have h63 : k ≤ 9223372036854775807 := by unfold maxLen at hm; omega
 have hcap : Builtin.nextslicecap (0 + k) 0 * ti.bytes ≤ 281474976710656 := by
  have : Builtin.nextslicecap (0 + k) 0 = k := by
   unfold Builtin.nextslicecap
   rw [if_pos (by omega)]
   omega
  rw [this, e2]
  omega
 have hr := Go.Lib.run_append_grow_zeros (P := P) w t tn ty e ti z .i64 kn ht htn hti e0 none 0 0 [] hold k h0 (by rw [e1]; omega) (by omega) (by omega) (by rw [e2]; omega) hcap
 obtain ⟨cap, hcape⟩ : ∃ cap, cap = grownCap w (0 + k) 0 e := ⟨_, rfl⟩
 rw [← hcape] at hr
 have hge : k ≤ cap := by rw [hcape]; have := grownCap_ge w (0 + k) 0 e; omega
 have hle : cap ≤ maxLen := by rw [hcape]; exact grownCap_le_maxLen w (0 + k) 0 e (by omega)
 have : (execOp a.eval (Oper.mk (some i) (.call { callee := .builtin .append, args := #[s, x], argTypes := #[t, tn] }) ty pos af g)).run P w = .ok (.value (.slice (some ⟨w.heap.size, 0, none⟩) (0 + k) cap)) (w.drew.alloc (.cells (([] : List Value).toArray ++ Builtin.zeroCells z.cells k ++ Builtin.zeroCells z.cells (cap - (0 + k))) e)) := by
  simp [execOp, resolve, invoke, builtin, f.eval hs, f.eval hx, hr]
 show (Oper.mk (some i) (.call { callee := .builtin .append, args := #[s, x], argTypes := #[t, tn] }) ty pos af g).wp P a w K Q
 unfold Oper.wp
 rw [this, Nat.zero_add]
 have hsz : ∀ m, (Builtin.zeroCells z.cells m).size = m := fun m => by unfold Builtin.zeroCells; simp [hzs]
 refine h _ _ hge _ _ (f.put i (Nat.le_of_ble_eq_true hi) _) (((hw.drawn _).alloc _).ent ?_)
 refine cq (m := 0) (Nat.zero_le _) hle ?_ (by simp)
 simp [hsz]
 omega
end
end Go.SL
