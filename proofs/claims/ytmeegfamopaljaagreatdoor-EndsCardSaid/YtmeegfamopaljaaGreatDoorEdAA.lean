/- flowkeeperkeep's Ends. -/
import Derived.Test.YtmeegfamopaljaaGreatDoorEdZ
import Derived.Test.YtmeegfamopaljaaGreatDoorEdJ
import Derived.Deep.Slices
import Derived.Lib.SmallJoins
import Derived.ProofKit
import Derived.OpenShut
import Derived.Test.YtmeegfamopaljaaGreatDoorCards
import Derived.Test.YtmeegfamopaljaaGreatDoorTie
import Derived.Test.YtmeegfamopaljaaGreatDoorEdL
import Derived.Test.YtmeegfamopaljaaGreatDoorEdI
import Derived.Deep.DeepHandedRow
import Derived.Lib.LaidTab
import Derived.LaidHandle
import Derived.LaidSub
import Derived.Stop.LaidErr
import Derived.Leaving
import Derived.Conc.Holds
import Derived.SevenTiedAt
namespace FK
open Go.Proofs.YtmeegfamopaljaaGreatDoor (bd iz)
def pP (ns : List Node) (g : Int) (k : Nat) : Int := match ns[k]? with
 | some n => n.budget * l7 n g
 | none => 0
theorem ri (ns : List Node) (g : Int) : ∀ k, k ≤ ns.length → kh (pP ns g) k = bd g (ns.take k)
 | 0, _ => by simp [kh, bd]
 | k + 1, h => by
  have ih := ri ns g k (by omega)
  have hn : ns[k]? = some (ns[k]) := List.getElem?_eq_getElem (by omega)
  rw [iz g ns k (by omega), ← ih]
  show kh (pP ns g) k + pP ns g k = _
  unfold pP
  rw [hn]
  rfl
theorem yL (ns : List Node) (g : Int) : kh (pP ns g) ns.length = bd g ns := by
 rw [ri ns g _ (Nat.le_refl _), List.take_length]
theorem EndSt.start {F : Flow} (hF : Fit F) {polls : Bool} {g : Nat} (hg : 0 < g) {l : List (List UInt8)} (hl : Lg 3000 l (o8.submit F)) : ∃ R, EndSt F polls g (3 + F.deadline.toNat) (bd g F.nodes) l (o8.submit F) R 0 := by
 obtain ⟨R, hS, hrun, hz, b1, btm, b2, b3, b4, b5⟩ := Seen.begin oQ (by decide) hF rfl rB
 obtain ⟨⟨hd1, hd2⟩, _, _⟩ := hF.head
 have hlater : o8.later F.deadline.toNat = 3 + F.deadline.toNat := by
  unfold En.later
  show min (3 + F.deadline.toNat) _ = _
  omega
 have hro := hS.lone.ok.run 2 R hS.lone.get
 have hts : cx R = 0 := by
  unfold cx
  have : ∀ (l : List Nat), (∀ x ∈ l, x = 0) → l.sum = 0 := by
   intro l
   induction l with
   | nil => intro _; rfl
   | cons a l ih =>
    intro h
    rw [List.sum_cons, h a (List.mem_cons_self), ih fun x hx => h x (List.mem_cons_of_mem _ hx)]
  refine this _ fun x hx => ?_
  obtain ⟨s, hs, rfl⟩ := List.mem_map.1 hx
  obtain ⟨k, hk⟩ := List.getElem?_of_mem hs
  rw [(hz k s hk).1]
  rfl
 have hnow : (o8.submit F).now = 3 + 0 := b1
 refine ⟨R, ⟨hS.lone, hnow, fun x hx => ?_, fun _ => ?_, fun _ _ => ⟨pP F.nodes g, ?_, ?_⟩⟩, hl.mono (by omega), ?_⟩
 · rw [btm, List.mem_singleton] at hx
   subst hx
   rw [hnow]
   show 3 + 0 < o8.later F.deadline.toNat
   rw [hlater]
   omega
 · rw [btm, hlater]
   exact List.mem_singleton.2 rfl
 · have hnode : ∀ (k : Nat) (n : Node), R.fl.nodes[k]? = some n → pP F.nodes g k = n.budget * l7 n g ∧ cf n := fun k n hn => by
    refine ⟨?_, (hro.fl.nodes k n (bx hn) hn).1⟩
    rw [hS.lone.fl] at hn
    unfold pP
    rw [hn]
   have hg0 : ia 0 g = 0 := by unfold ia; rw [Nat.zero_mod, if_pos rfl]
   refine ⟨fun k => ?_, fun k s n hs hn e => ?_, fun k s n hs hn e => ?_, fun k s n hs hn e => ?_, fun k s n hs hn e => ?_⟩
   · unfold pP
     cases hn : F.nodes[k]? with
     | none => exact Int.le_refl _
     | some n =>
      have hno := (hF.nodes k n (bx hn) hn).1
      have hc := qa hno (g := (g : Int)) (by omega)
      exact Int.mul_nonneg (by have := hno.1; omega) (by omega)
   · rw [(hnode k n hn).1]
     exact Int.le_refl _
   · rw [(hnode k n hn).1, (hz k s hs).1, hg0, Int.sub_zero]
     omega
   · have := (hz k s hs).2.2
     omega
   · have := (hz k s hs).2.2
     omega
 · rw [yL]
   omega
 · rw [hts]
   refine ⟨?_, ?_, ?_, ?_, ?_⟩
   · exact Nat.le_trans (Nat.le_of_eq b2) (by decide)
   · exact Nat.le_trans (Nat.le_of_eq b3) (by decide)
   · exact Nat.le_trans (Nat.le_of_eq b4) (by decide)
   · exact Nat.le_trans (Nat.le_of_eq b5) (by decide)
   · exact Nat.le_trans (Nat.le_of_eq b1) (by decide)
theorem EndSt.ended {F : Flow} {polls : Bool} {g : Nat} {l : List (List UInt8)} {S : En} {R : Rn} {t : Nat} (h : EndSt F polls g (3 + F.deadline.toNat) (bd g F.nodes) l S R t) (hg : 0 < g)
 (ht : t = F.deadline.toNat ∨ (polls = true ∧ bd g F.nodes ≤ t)) : R.state ≠ 1 ∧ S.tms = [] := by
 have hL := h.drv.lone
 have hne : R.state ≠ 1 := fun hrun => by
  rcases ht with ht | ⟨hp, ht⟩
  · have := h.drv.lt _ (h.drv.dead hrun)
    rw [h.drv.now] at this
    simp only at this
    omega
  · obtain ⟨w, hC, hw⟩ := h.drv.cred hp hrun
    obtain ⟨k, s, n, hs, hn, ha⟩ := hL.active hrun
    have h1 := hC.act hL h.drv.lt (by omega) (oc hg) ((kP hs).2 ha)
    have h2 := uZ hC.pos (yG hL hs)
    omega
 refine ⟨hne, ?_⟩
 cases htm : S.tms with
 | nil => rfl
 | cons x l =>
  obtain ⟨_, A, hA, hT⟩ := hL.ok.tms x (by rw [htm]; exact List.mem_cons_self)
  by_cases e : x.1.run = 2
  · rw [e, hL.get] at hA
    injection hA with hA
    subst hA
    exact absurd hT.1 hne
  · exact absurd hT.1 (hL.alone _ A e hA)
theorem qS {ns : List Node} {g : Int} (hg : 0 ≤ g) (h1 : 1 ≤ ns.length) (h : ∀ n ∈ ns, cf n) : 1 ≤ bd g ns := by
 have key : ∀ l : List Node, (∀ n ∈ l, cf n) → 0 ≤ bd g l := by
  intro l
  induction l with
  | nil => intro _; exact Int.le_refl _
  | cons n l ih =>
   intro h
   have hno := h n (List.mem_cons_self)
   have h2 := ih fun x hx => h x (List.mem_cons_of_mem _ hx)
   have hc := qa hno hg
   have h3 : 0 ≤ n.budget * l7 n g := Int.mul_nonneg (by have := hno.1; omega) (by omega)
   unfold bd
   unfold l7 at h3
   omega
 cases ns with
 | nil => simp at h1
 | cons n l =>
  have hno := h n (List.mem_cons_self)
  have h2 := key l fun x hx => h x (List.mem_cons_of_mem _ hx)
  have hc := qa hno hg
  have h3 : 1 * l7 n g ≤ n.budget * l7 n g := Int.mul_le_mul_of_nonneg_right hno.1 (by omega)
  unfold bd
  unfold l7 at h3 hc
  omega
end FK
namespace Go.Proofs.YtmeegfamopaljaaGreatDoor
open Go Go.RowKit Go.SL
set_option maxRecDepth 20000 in
set_option maxHeartbeats 10000000 in
theorem uB (nodes deadline gap what lose : Int) (polls : Bool) (hnodes : i64 nodes) (hdl : i64 deadline) (hgap : i64 gap) (hwhat : i64 what) (hlose : i64 lose) (A1 A2 : Option Addr) (c1 c2 : Nat) (bits numbers : List Int) :
 Gives Tryz.prog Good 8 [.int .i64 nodes, .slice A1 bits.length c1, .slice A2 numbers.length c2, .int .i64 deadline, .int .i64 gap, .int .i64 what, .bool polls, .int .i64 lose].toArray (fun w => IntsAt w w.heap.size A1 c1 bits ∧ IntsAt w w.heap.size A2 c2 numbers)
  fun v m => v = .bool true ∧ m = [] := by
 refine Gives.body Tryz.func8 Z Z fun E w0 hE h0 hN => ?_
 refine At.seq (At.region (L.as Z Z (L.nil (At.then (At.seq (At.region (L.mv Z Z (L.mv Z Z (L.mv Z Z (L.mv Z Z ?_))))))))))
 refine L.op Z (dC Z Z Z hE (xa nodes deadline hnodes hdl A1 A2 c1 c2 bits numbers) (fun w hw => ⟨jZ .head h0 hN.1 (Nat.le_refl _) w hw, jZ .head h0 hN.2 (Nat.le_refl _) w hw⟩) ?_)
 rintro v m ⟨dl, ns, A', c', hdl', hn1, hn12, hlow, rfl, rfl⟩
 refine ai ?_
 have hfit := hlow.fit (d := dl) hdl' hn1 hn12
 obtain ⟨hdl1, hdl2⟩ := hdl'
 refine L.op Z (aH (z := .agg #[.int .i64 0, .slice none 0 0]) Z Z fun b17 => ?_)
 refine L.op Z (aG Z (m := 2) (vs := [.int .i64 dl, .slice A' ns.length c']) Z Z Z Z (by simp [Value.oneCell']) (by simp [Value.cells]) ?_)
 refine ax b17 #[.int .i64 dl, .slice A' ns.length c'] rfl (L.nil (At.then (At.seq (At.region (L.val Z (am (vs := [.int .i64 dl, .slice A' ns.length c']) Z Z Z Z) (av Z) (L.op Z (ah Z Z Z hE (tO dl ns A' c' hfit) (Ent.sel (.tail .head)) ?_)))))))
 rintro v m ⟨w, h, f, e, j, d, p, l, R0, rv, yv, rfl, hseen, hlg, rfl⟩
 obtain ⟨S, hS⟩ : ∃ S, S = FK.o8.submit ⟨dl, ns⟩ := ⟨_, rfl⟩
 rw [← hS] at hlg ⊢
 refine At.ent (l' := bE h d f :: dA f e j :: ap e p S :: aD j d FK.J0 :: ak d (FK.cY l 1) :: nodesOwn (.slice A' ns.length c') ns :: fH w h dl (.slice A' ns.length c') 2 (.slice none 0 0) rv yv 0 0 (.slice none 0 0) (.slice none 0 0) :: blk b17 29 #[.int .i64 dl, (.slice A' ns.length c')] :: old E w0 :: []) (by show Ent (fH w h dl (.slice A' ns.length c') 2 (.slice none 0 0) rv yv 0 0 (.slice none 0 0) (.slice none 0 0) :: m9 rv (List.replicate ns.length 0) :: bh yv (List.replicate ns.length 0) :: nodesOwn (.slice A' ns.length c') ns :: bE h d f :: dA f e j :: ap e p S :: aD j d FK.J0 :: ak d (FK.cY l 1) :: blk b17 29 #[.int .i64 dl, (.slice A' ns.length c')] :: old E w0 :: []) _; exact ao) ?_
 refine L.as Z Z (L.nil (At.then (At.seq (At.seq (At.region (L.mv Z Z (L.pure Z (dg Z Z Z) (L.nil (At.then (aj Z (At.skip (At.then (At.seq (At.region (L.mv Z Z ?_)))))))))))))))
 refine L.op Z (ah Z Z Z hE (kx gap 9 hgap (by omega) (by omega)) (Ent.refl _) ?_)
 rintro v m ⟨k9, rfl, hk9, rfl⟩
 refine ay ?_
 obtain ⟨gg, hgg⟩ : ∃ gg : Nat, gg = 1 + k9 := ⟨_, rfl⟩
 have hgg0 : 0 < gg := by omega
 have hbs : 1 ≤ bd gg ns := FK.qS (by omega) hn1 fun n hn => by
  obtain ⟨i, hi⟩ := List.getElem?_of_mem hn
  exact (hfit.nodes i n (FK.bx hi) hi).1
 obtain ⟨R, hst0⟩ := FK.EndSt.start hfit (polls := polls) hgg0 (hS ▸ hlg)
 rw [← hS] at hst0
 refine L.pure Z (aO (r := ((gg : Nat) : Int)) Z Z (by rw [cT (by omega)]; omega)) ?_
 refine L.as Z Z (L.nil (At.then (At.seq (At.region (aE 0 Z Z Z (aX Z Z Z Z (L.as Z Z (L.nil (At.then ?_)))))))))
 refine At.seq (At.cut (X := Int) (fun x => [(20, .int .i64 x), (19, .int .i64 gg), (18, aL w), (17, aL b17), (16, .bool false), (7, .int .i64 lose), (6, .bool polls), (5, .int .i64 what)]) (fun _ => bE h d f :: dA f e j :: ap e p S :: aD j d FK.J0 :: ak d (FK.cY l 1) :: fH w h dl (.slice A' ns.length c') 2 (.slice none 0 0) rv yv 0 0 (.slice none 0 0) (.slice none 0 0) :: blk b17 29 #[.int .i64 dl, (.slice A' ns.length c')] :: old E w0 :: []) (fun x => 1 ≤ x ∧ x ≤ dl ∧ (x = dl ∨ (polls = true ∧ bd gg ns ≤ x))) ?_ ?_)
 ·
  refine At.seq (At.region (L.mv Z Z (L.nil (At.then ?_))))
  refine eD Z (fun hpl => ?_) (fun hpl => ?_)
  ·
   subst hpl
   refine At.seq (At.region (L.val Z (am (vs := [.int .i64 dl, .slice A' ns.length c']) Z Z Z Z) (av Z) (L.mv Z Z ?_)))
   refine L.op Z (dC Z Z Z hE (oC dl A' c' ns gg hfit (by omega) (by omega)) (nodesOwn.at (.tail (.tail (.tail (.tail (.tail (.head)))))) (j6 hfit)) ?_)
   rintro v m ⟨rfl, rfl⟩
   refine ay (L.as Z Z (L.nil (At.then (At.seq (At.region (L.mv Z Z ?_))))))
   refine L.pure Z (bf (r := false) Z Z (decide_eq_false (by omega))) ?_
   refine L.mv Z Z (lT Z Z Z (ag Z) (lT Z Z Z (ab (off := 0) Z Z) (lA Z Z Z (aa Z Z) (ae Z) ?_)))
   refine lT Z Z Z (dZ (r := false) Z Z (decide_eq_false (by omega))) ?_
   refine L.pure Z (aM Z Z Z) (L.nil (At.then (aj Z (At.skip ?_))))
   have hmm : min (bd gg ns) dl = dl ∨ (true = true ∧ bd gg ns ≤ min (bd gg ns) dl) := by
    rcases Int.le_total (bd gg ns) dl with h | h
    · exact .inr ⟨rfl, by omega⟩
    · exact .inl (by omega)
   exact bk (min (bd gg ns) dl) ⟨by omega, by omega, hmm⟩ ⟨rfl, rfl, rfl, rfl, rfl, rfl, rfl, rfl, trivial⟩ ao
  ·
   refine At.skip ?_
   exact bk dl ⟨by omega, by omega, .inl Z⟩ ⟨rfl, rfl, rfl, rfl, rfl, rfl, rfl, rfl, trivial⟩ ao
 rintro lim ⟨hl1, hl2, hl3⟩
 obtain ⟨limn, rfl⟩ : ∃ n : Nat, lim = n := ⟨lim.toNat, by omega⟩
 refine At.seq (At.region (L.op Z (aH (z := .int .u64 0) Z Z fun bb => ?_)))
 refine L.st Z Z Z Z (by first | decide | simp | (simp; omega)) ?_
 refine L.nil (At.then (At.seq (At.seq (ax bb #[.int .u64 ((0 : Nat) : Int)] rfl (At.region (L.as Z Z (L.nil (At.then (At.block ?_)))))))))
 refine aT (X := Nat × Nat × Nat × Nat × EA × FK.En × FK.Rn × List (List UInt8) × Nat) (fun x => [(22, .int .i64 x.1), (21, aL bb), (20, .int .i64 limn), (19, .int .i64 gg), (18, aL w), (17, aL b17), (16, .bool false), (7, .int .i64 lose), (6, .bool polls), (5, .int .i64 what)]) (fun x => bE h d x.2.1 :: dA x.2.1 x.2.2.1 x.2.2.2.1 :: ap x.2.2.1 x.2.2.2.2.1 x.2.2.2.2.2.1 :: aD x.2.2.2.1 d FK.J0 :: ak d (FK.cY x.2.2.2.2.2.2.2.1 1) :: fH w h dl (.slice A' ns.length c') 2 (.slice none 0 0) rv yv 0 0 (.slice none 0 0) (.slice none 0 0) :: blk bb 87 #[.int .u64 ((x.2.2.2.2.2.2.2.2 : Nat) : Int)] :: blk b17 29 #[.int .i64 dl, (.slice A' ns.length c')] :: old E w0 :: []) (fun x => x.1 ≤ limn ∧ FK.EndSt ⟨dl, ns⟩ polls gg (3 + dl.toNat) (bd gg ns) x.2.2.2.2.2.2.2.1 x.2.2.2.2.2.1 x.2.2.2.2.2.2.1 x.1 ∧ x.2.2.2.2.2.2.2.2 < 18446744073709551616) (fun x => limn - x.1) (0, f, e, j, p, S, R, l, 0) ⟨Nat.zero_le _, hst0, by show (0 : Nat) < 18446744073709551616; omega⟩ ⟨rfl, rfl, rfl, rfl, rfl, rfl, rfl, rfl, rfl, rfl, trivial⟩ ao ?_
 rintro ⟨t, f, e, j, p, S, R, l, bit⟩ ⟨ht, hst, hbit⟩
 replace ht : t ≤ limn := ht
 replace hst : FK.EndSt ⟨dl, ns⟩ polls gg (3 + dl.toNat) (bd gg ns) l S R t := hst
 replace hbit : bit < 18446744073709551616 := hbit
 refine At.ent (l' := bE h d f :: dA f e j :: ap e p S :: aD j d FK.J0 :: ak d (FK.cY l 1) :: fH w h dl (.slice A' ns.length c') 2 (.slice none 0 0) rv yv 0 0 (.slice none 0 0) (.slice none 0 0) :: blk bb 87 #[.int .u64 ((bit : Nat) : Int)] :: blk b17 29 #[.int .i64 dl, (.slice A' ns.length c')] :: old E w0 :: []) (Ent.refl _) (At.seq (At.seq (At.region (L.mv Z Z (L.mv Z Z (L.pure Z (bf Z Z Z) (L.nil (At.then ?_))))))))
 refine aC Z (fun c57 => ?_) (fun c57 => ?_)
 ·
  have htl : t < limn := by have : (t : Int) < (limn : Int) := c57; omega
  refine At.skip (At.then (At.seq (At.block ?_)))
  refine At.seq (At.cut (X := FK.En × FK.Rn × List (List UInt8) × Nat) (fun _ => [(22, .int .i64 t), (21, aL bb), (20, .int .i64 limn), (19, .int .i64 gg), (18, aL w), (17, aL b17), (16, .bool false), (7, .int .i64 lose), (6, .bool polls), (5, .int .i64 what)]) (fun x => bE h d f :: dA f e j :: ap e p x.1 :: aD j d FK.J0 :: ak d (FK.cY x.2.2.1 1) :: fH w h dl (.slice A' ns.length c') 2 (.slice none 0 0) rv yv 0 0 (.slice none 0 0) (.slice none 0 0) :: blk bb 87 #[.int .u64 ((x.2.2.2 : Nat) : Int)] :: blk b17 29 #[.int .i64 dl, (.slice A' ns.length c')] :: old E w0 :: []) (fun x => FK.EndSt ⟨dl, ns⟩ polls gg (3 + dl.toNat) (bd gg ns) x.2.2.1 x.1 x.2.1 t ∧ x.2.2.2 < 18446744073709551616 ∧ (polls = true → t % gg = 0 → x.1.queue = [])) ?_ ?_)
  ·
   refine At.seq ?_
   by_cases HP : polls = true
   ·
    subst HP
    by_cases HM : t % gg = 0
    ·
     refine At.region (L.mv Z Z (L.mv Z Z (lT Z Z Z (ag Z) (lT Z Z Z (ag Z) ?_))))
     refine lT Z Z Z (gO (r := ((t % gg : Nat) : Int)) Z Z (by omega) (iW (a := t) (b := gg) (by omega) hgg0)) ?_
     refine lT Z Z Z (aV (r := true) Z Z (decide_eq_true (by omega))) ?_
     refine L.pure Z (aM Z Z Z) (L.nil (At.then (aR Z (At.seq (At.region (L.mv Z Z (L.mv Z Z ?_)))))))
     refine L.op Z (ah Z Z Z hE (uE hwhat hst (by omega) HM hbit) (Ent.refl _) ?_)
     rintro v m ⟨rfl, S1, R1, l1, bit1, hbit1, hst1, hq1, rfl⟩
     refine At.ent (l' := bE h d f :: dA f e j :: ap e p S1 :: aD j d FK.J0 :: ak d (FK.cY l1 1) :: fH w h dl (.slice A' ns.length c') 2 (.slice none 0 0) rv yv 0 0 (.slice none 0 0) (.slice none 0 0) :: blk bb 87 #[.int .u64 ((bit1 : Nat) : Int)] :: blk b17 29 #[.int .i64 dl, (.slice A' ns.length c')] :: old E w0 :: []) (Ent.refl _) (L.as Z Z (L.nil (At.then (At.seq (At.region (L.mv Z Z (L.pure Z (ck Z Z) (L.nil (At.then (aj Z (At.skip ?_)))))))))))
     exact bk (S1, R1, l1, bit1) ⟨hst1, hbit1, fun _ _ => hq1⟩ ⟨rfl, rfl, rfl, rfl, rfl, rfl, rfl, rfl, rfl, rfl, trivial⟩ (Ent.refl _)
    ·
     refine At.region (L.mv Z Z (L.mv Z Z (lT Z Z Z (ag Z) (lT Z Z Z (ag Z) ?_))))
     refine lT Z Z Z (gO (r := ((t % gg : Nat) : Int)) Z Z (by omega) (iW (a := t) (b := gg) (by omega) hgg0)) ?_
     refine lT Z Z Z (aV (r := false) Z Z (decide_eq_false (by omega))) ?_
     refine L.pure Z (aM Z Z Z) (L.nil (At.then (aj Z (At.skip ?_))))
     exact bk (S, R, l, bit) ⟨hst, hbit, fun _ hm => absurd hm HM⟩ ⟨rfl, rfl, rfl, rfl, rfl, rfl, rfl, rfl, rfl, rfl, trivial⟩ (Ent.refl _)
   ·
    obtain rfl : polls = false := by cases polls with
     | true => exact absurd rfl HP
     | false => rfl
    refine At.region (L.mv Z Z (L.mv Z Z (L.off Z Z Z Z Z Z (L.off Z Z Z Z Z Z (L.off Z Z Z Z Z Z (L.off Z Z Z Z Z Z (L.pure Z (aM Z Z Z) (L.nil (At.then (aj Z (At.skip ?_)))))))))))
    exact bk (S, R, l, bit) ⟨hst, hbit, fun h => by cases h⟩ ⟨rfl, rfl, rfl, rfl, rfl, rfl, rfl, rfl, rfl, rfl, trivial⟩ (Ent.refl _)
  rintro ⟨S1, R1, l1, bit1⟩ ⟨hst1, hbit1, hq1⟩
  replace hst1 : FK.EndSt ⟨dl, ns⟩ polls gg (3 + dl.toNat) (bd gg ns) l1 S1 R1 t := hst1
  replace hbit1 : bit1 < 18446744073709551616 := hbit1
  replace hq1 : polls = true → t % gg = 0 → S1.queue = [] := hq1
  refine At.ent (l' := bE h d f :: dA f e j :: ap e p S1 :: aD j d FK.J0 :: ak d (FK.cY l1 1) :: fH w h dl (.slice A' ns.length c') 2 (.slice none 0 0) rv yv 0 0 (.slice none 0 0) (.slice none 0 0) :: blk bb 87 #[.int .u64 ((bit1 : Nat) : Int)] :: blk b17 29 #[.int .i64 dl, (.slice A' ns.length c')] :: old E w0 :: []) (Ent.refl _) ?_
  refine At.seq (At.cut (X := Nat × Nat × Nat × EA) (fun _ => [(22, .int .i64 t), (21, aL bb), (20, .int .i64 limn), (19, .int .i64 gg), (18, aL w), (17, aL b17), (16, .bool false), (7, .int .i64 lose), (6, .bool polls), (5, .int .i64 what)]) (fun x => bE h d x.1 :: dA x.1 x.2.1 x.2.2.1 :: ap x.2.1 x.2.2.2 S1 :: aD x.2.2.1 d FK.J0 :: ak d (FK.cY l1 1) :: fH w h dl (.slice A' ns.length c') 2 (.slice none 0 0) rv yv 0 0 (.slice none 0 0) (.slice none 0 0) :: blk bb 87 #[.int .u64 ((bit1 : Nat) : Int)] :: blk b17 29 #[.int .i64 dl, (.slice A' ns.length c')] :: old E w0 :: []) (fun _ => True) ?_ ?_)
  ·
   refine At.seq (At.region (L.mv Z Z ?_))
   refine L.pure Z (gO (r := ((t % 64 : Nat) : Int)) Z Z (by omega) (iW (a := t) (b := 64) (by omega) (by omega))) ?_
   refine L.mv Z Z ?_
   refine L.op Z (ah Z Z Z hE (kx lose 128 hlose (by omega) (by omega)) (Ent.refl _) ?_)
   rintro v m ⟨kl, rfl, hkl, rfl⟩
   refine ay (L.pure Z (aV Z Z Z) (L.nil (At.then ?_)))
   refine aC Z (fun c76 => ?_) (fun c76 => ?_)
   ·
    refine At.seq (At.region (L.mv Z Z (aN Z Z (aE 0 Z Z Z (aX Z Z Z Z (L.mv Z Z ?_))))))
    refine L.op Z (ah Z Z Z hE (uo (kept := (t : Int)) (part := 0) (by unfold i64; omega)) (Ent.refl _) ?_)
    rintro v m ⟨rfl, rfl⟩
    refine aF (L.nil (At.then (At.seq (Dr.start Z (dP 0 Z Z (ag Z) (dP 1 Z Z (aq Z) (dP 2 Z Z (ab (off := 0) Z Z) (dL 3 Z Z (aa Z Z) (ae Z) (dR 4 Z Z (ah Z Z Z hE dV (Ent.refl _) ?_))))))))))
    rintro v m ⟨rfl, rfl⟩
    refine ay ?_
    refine Dr.kept [true] (by kernel_rfl) (Kept.cons (ae Z) Kept.nil) ?_
    refine dR 5 Z Z (ah Z Z Z hE (sK (by have := hst1.lg.len; have := hst1.small (by omega); omega) hst1.lg.reds) (Ent.refl _) ?_)
    rintro v m ⟨rfl, f', e', j', p', rfl⟩
    refine bV ?_
    refine Dr.kept [false] (by kernel_rfl) Kept.nil ?_
    refine dP 6 Z Z (az Z) (dE (At.then (At.seq (At.region (L.mv Z Z (L.pure Z (cr (r := false) Z Z Z) (L.nil (At.then (aj Z (At.skip ?_))))))))))
    exact bk (f', e', j', p') trivial ⟨rfl, rfl, rfl, rfl, rfl, rfl, rfl, rfl, rfl, rfl, trivial⟩ ao
   ·
    refine At.skip ?_
    exact bk (f, e, j, p) trivial ⟨rfl, rfl, rfl, rfl, rfl, rfl, rfl, rfl, rfl, rfl, trivial⟩ ao
  rintro ⟨f, e, j, p⟩ -
  refine At.ent (l' := bE h d f :: dA f e j :: ap e p S1 :: aD j d FK.J0 :: ak d (FK.cY l1 1) :: fH w h dl (.slice A' ns.length c') 2 (.slice none 0 0) rv yv 0 0 (.slice none 0 0) (.slice none 0 0) :: blk bb 87 #[.int .u64 ((bit1 : Nat) : Int)] :: blk b17 29 #[.int .i64 dl, (.slice A' ns.length c')] :: old E w0 :: []) (Ent.refl _) ?_
  have hL := hst1.drv.lone
  have hsm := hst1.small (by omega)
  have f1 := hst1.few.sets
  have f2 := hst1.few.ends
  refine At.seq (Dr.start Z (dP 0 Z Z (ag Z) (dP 1 Z Z (aq Z) (dP 2 Z Z (ab (off := 0) Z Z) (dL 3 Z Z (aa Z Z) (ae Z) (dR 4 Z Z (ah Z Z Z hE dV (Ent.refl _) ?_)))))))
  rintro v m ⟨rfl, rfl⟩
  refine ay ?_
  refine Dr.kept [true] (by kernel_rfl) (Kept.cons (ae Z) Kept.nil) ?_
  refine dR 5 Z Z (ah Z Z Z hE (n8 (J := FK.J0) (n := 1) hL.ok (by omega) (by decide) Z (jX hst1.lg (by omega)) (FK.gD l1) (by omega) (by omega)) (Ent.refl _) ?_)
  rintro v m ⟨rfl, U, hU, rfl⟩
  refine bV ?_
  rw [cQ]
  obtain ⟨R2, hst2⟩ := hst1.tick (by omega) hgg0 hq1 hU
  refine Dr.kept [false] (by kernel_rfl) Kept.nil ?_
  refine dP 6 Z Z (az Z) (dE (At.then (At.seq (At.region (L.mv Z Z (L.pure Z (cr (r := false) Z Z Z) (L.nil (At.then (aj Z (At.skip (al (At.then (At.region (L.mv Z Z ?_))))))))))))))
  refine L.pure Z (aO (r := ((t + 1 : Nat) : Int)) Z Z (by rw [cT (by omega)]; omega)) ?_
  refine L.as Z Z (L.nil ?_)
  exact At.round (t + 1, f, e, j, p, U, R2, l1 ++ [FK.aY 7 1], bit1) ⟨htl, hst2, hbit1⟩ (by show limn - (t + 1) < limn - t; omega) ⟨rfl, rfl, rfl, rfl, rfl, rfl, rfl, rfl, rfl, rfl, trivial⟩ ao
 ·
  have htl : t = limn := by
   have : ¬ (t : Int) < (limn : Int) := c57
   omega
  obtain ⟨hne, htm⟩ := hst.ended hgg0 (by
   rcases hl3 with h3 | ⟨h3, h4⟩
   · exact .inl (by show t = dl.toNat; omega)
   · exact .inr ⟨h3, by show bd gg ns ≤ t; omega⟩)
  have hL := hst.drv.lone
  refine At.exit (au (ar (an (At.then ?_))))
  refine At.seq (At.cut (X := Nat × Value × Value) (fun x => [(27, .int .i64 0), (26, aL x.1), (18, aL w)]) (fun x => bE h d f :: dA f e j :: ap e p S :: aD j d FK.J0 :: ak d (FK.cY l 1) :: blk x.1 62 (cB 2 R.state x.2.1 x.2.2).toArray :: fH w h dl (.slice A' ns.length c') 2 (.slice none 0 0) rv yv 0 0 (.slice none 0 0) (.slice none 0 0) :: old E w0 :: []) (fun _ => True) ?_ ?_)
  ·
   refine Dr.start Z (dP 0 Z Z (ag Z) (dP 1 Z Z (aq Z) (dP 2 Z Z (ab (off := 0) Z Z) (dL 3 Z Z (aa Z Z) (ae Z) (dP 4 Z Z (ag Z) (dP 5 Z Z (aq Z) (dP 6 Z Z (ab (off := 3) Z Z) (dL 7 Z Z (aa Z Z) (ae Z) ?_))))))))
   refine gz 8 12 Z Z Z Z (by kernel_rfl) (ah Z Z Z hE (jf hL.ok hL.get) (by first | exact Ent.refl _ | exact fh) ?_) (aH (z := .agg #[.int .u64 0, .int .i64 0, .slice none 0 0, .slice none 0 0]) Z Z fun b26 => ?_)
   ·
    rintro v m ⟨A2, c2, A3, c3, rfl, rfl⟩
    refine qx ?_
    refine Dr.kept [false, false] (by kernel_rfl) Kept.nil ?_
    refine dP 9 Z Z (ag Z) (dP 10 Z Z (aU Z Z) (dP 11 Z Z (aU Z Z) (dR 12 Z Z (aH (z := .agg #[.int .u64 0, .int .i64 0, .slice none 0 0, .slice none 0 0]) Z Z fun b26 => ?_))))
    refine Dr.kept [] (by kernel_rfl) Kept.nil ?_
    refine dR 13 Z Z (aG Z (m := 4) (vs := cB 2 R.state (.slice A2 R.steps.length c2) (.slice A3 R.steps.length c3)) Z Z Z Z (by simp [Value.oneCell']) (by show 0 + 4 ≤ 4; omega) ?_)
    refine ax b26 (cB 2 R.state (.slice A2 R.steps.length c2) (.slice A3 R.steps.length c3)).toArray Z ?_
    refine Dr.kept [] (by kernel_rfl) Kept.nil ?_
    refine dP 14 Z Z (az Z) (dE ?_)
    exact bk (b26, .slice A2 R.steps.length c2, .slice A3 R.steps.length c3) trivial ⟨rfl, rfl, rfl, trivial⟩ ao
   ·
    refine Dr.kept [true, true] (by kernel_rfl) (Kept.cons (ae Z) (Kept.cons (ae Z) Kept.nil)) ?_
    refine dR 8 Z Z (ah Z Z Z hE (jf hL.ok hL.get) (by first | exact Ent.refl _ | exact fh) ?_)
    rintro v m ⟨A2, c2, A3, c3, rfl, rfl⟩
    refine qx ?_
    refine Dr.kept [false, false] (by kernel_rfl) Kept.nil ?_
    refine dP 9 Z Z (ag Z) (dP 10 Z Z (aU Z Z) (dP 11 Z Z (aU Z Z) ?_))
    refine dR 13 Z Z (aG Z (m := 4) (vs := cB 2 R.state (.slice A2 R.steps.length c2) (.slice A3 R.steps.length c3)) Z Z Z Z (by simp [Value.oneCell']) (by show 0 + 4 ≤ 4; omega) ?_)
    refine ax b26 (cB 2 R.state (.slice A2 R.steps.length c2) (.slice A3 R.steps.length c3)).toArray Z ?_
    refine Dr.kept [] (by kernel_rfl) Kept.nil ?_
    refine dP 14 Z Z (az Z) (dE ?_)
    exact bk (b26, .slice A2 R.steps.length c2, .slice A3 R.steps.length c3) trivial ⟨rfl, rfl, rfl, trivial⟩ ao
  rintro ⟨b26, v2, v3⟩ -
  refine At.seq (At.region (L.mv Z Z (aN Z Z (aE 0 Z Z Z (aX Z Z Z Z (L.op Z (ah Z Z Z hE (oF htm) (Ent.refl _) ?_)))))))
  rintro v m ⟨rfl, rfl⟩
  refine bV (L.as Z Z (L.nil (At.then (At.seq (At.region (L.mv Z Z (L.pure Z (aV (r := true) Z Z Z) (L.mv Z Z (lT Z Z Z (ab (off := 1) Z Z) (lA Z Z Z (aa Z Z) (ae Z) ?_))))))))))
  refine lT Z Z Z (cr (r := true) Z Z (by simpa using hne)) ?_
  refine L.pure Z (aM Z Z Z) (L.mv Z Z (lT Z Z Z (ag Z) (lT Z Z Z (aP Z Z) (lT Z Z Z (aV (r := true) Z Z Z) (L.pure Z (aM Z Z Z) (L.as Z Z (L.nil (At.then (At.ret ?_)))))))))
  refine aA [] rfl Z ⟨rfl, rfl⟩ ?_
  show Ent _ [old E w0]
  exact ao
end Go.Proofs.YtmeegfamopaljaaGreatDoor

namespace Go.Proofs.YtmeegfamopaljaaGreatDoor
open Go Go.RowKit Go.Deep Go.ChangeShapes Go.WideShapes
theorem qV {w : World} {a : Addr} {v : Value} (h : w.cell? a = some v) : ∃ b off, a = ⟨b, off, none⟩ ∧ b < w.heap.size := by
 obtain ⟨b, off, spot⟩ := a
 unfold World.cell? at h
 split at h
 · rename_i c _ _ hc
   cases spot with
   | none => exact ⟨b, off, rfl, (Array.getElem?_eq_some_iff.1 hc).1⟩
   | some s => simp at h
 · cases h
theorem add_plain (b off n : Nat) : (⟨b, off, none⟩ : Addr).add n = ⟨b, off + n, none⟩ := by
 unfold Addr.add; split <;> simp_all
theorem gF {n : Int} (h : (Lit.int .i64 n).wf = true) : i64 n := by
 have := bounds_i64 h
 exact ⟨this.1, by omega⟩
theorem zS : Tryz.prog.cellsOf 3 = 1 := by kernel_rfl
theorem zT : Tryz.prog.bytesOf 3 = 8 := by kernel_rfl
section
variable {H : Type} {enc : TypeId × Value → H} {w : World}
theorem sA {fuel : Nat} {v : Value} {y : DataW H × List MemPlace} (h : DataW.trod enc Tryz.prog w 0 (fun _ => true) true fuel 24 [v] = some y) :
 ∃ A c l, v = .slice A l.length c ∧ IntsAt w w.heap.size A c l ∧ (∀ R, (y.1.weights Tryz.prog 24).all (· ≤ R) = true → l.length * 8 ≤ R) := by
 rcases open_ints Tryz.underlying24 Tryz.underlying3 zS h with ⟨hcs, hx⟩ | ⟨a, len, cap, zs, hcs, _, hl, hm, hz, hx, hcell, hwz⟩
 · simp at hcs; subst hcs
   exact ⟨none, 0, [], rfl, ⟨by simp, by simp, by simp, by simp⟩, fun R _ => by simp⟩
 · simp at hcs; subst hcs
   simp only [if_true] at hz
   have hlen : (zs.take len).length = len := by simp; omega
   refine ⟨some a, cap, zs.take len, by rw [hlen], ⟨fun x hx' => gF (hwz x (List.mem_of_mem_take hx')), by omega, by unfold maxLen at hm; omega, fun h0 => ?_⟩, fun R hR => ?_⟩
   · obtain ⟨b, off, rfl, hb⟩ := qV (hcell 0 (by omega))
     refine ⟨b, off, rfl, hb, fun i x hi => ?_⟩
     obtain ⟨hi1, hi2⟩ := List.getElem?_eq_some_iff.1 hi
     have := hcell i (by omega)
     rw [add_plain] at this
     rw [this]
     rw [List.getElem?_take] at hi
     split at hi
     · simp [List.getD, hi]
     · cases hi
   · rw [hx] at hR
     simp only [DataW.weights, Tryz.underlying24] at hR
     simp only [List.all_cons, Bool.and_eq_true, decide_eq_true_eq] at hR
     have h1 := hR.1
     rw [zT] at h1
     have e1 : (lits (H := H) IntKind.i64 (zs.take len)).length = len := by simp [lits]; omega
     rw [e1] at h1
     rw [hlen]
     have := Nat.le_add_right len (lits (H := H) IntKind.i64 (zs.drop len)).length
     have := Nat.mul_le_mul_right 8 this
     omega
instance : Inhabited FK.Node := ⟨⟨0, 0, 0, 0, 0, 0, []⟩⟩
set_option maxRecDepth 100000 in
end
end Go.Proofs.YtmeegfamopaljaaGreatDoor

namespace Go.Proofs.YtmeegfamopaljaaGreatDoor
open Go Go.ChangeShapes Go.WideShapes Go.ChangeAt Go.RowKit Go.Deep Go.SL
theorem own : ownKnob Tryz.prog.godebug = none := by kernel_rfl
theorem gT64 : Tryz.prog.globalNamed "math/bits.deBruijn64tab" = some 2 := by kernel_rfl
theorem gT64type : (Tryz.prog.globals[2]?).map (·.type) = some 352 := by kernel_rfl
theorem qp : laidOutB Tryz.prog = true := by kernel_rfl
theorem gErr : Tryz.prog.globalNamed "errors.errorType" = some 0 := by kernel_rfl
theorem rtypeIs : (Tryz.prog.cutTypes.find? (·.1 == "internal/reflectlite.rtype")).map (·.2) = some 314 := by kernel_rfl
theorem B0 : ((List.range Tryz.prog.types.size).filter fun t => Tryz.prog.rowNamed t [101, 114, 114, 111, 114]) = [109] := by kernel_rfl
abbrev x8 : List (String × DataW Unit) := [("math/bits.deBruijn32tab", Rows.laid_math_bits_deBruijn32tab), ("math/bits.deBruijn64tab", Rows.laid_math_bits_deBruijn64tab), ("internal/strconv.uint64pow10", Rows.laid_internal_strconv_uint64pow10), ("strconv.ErrRange", Rows.laid_strconv_ErrRange), ("strconv.ErrSyntax", Rows.laid_strconv_ErrSyntax)]
abbrev oS : List (String × DataW Unit) := [("math/bits.deBruijn32tab", Rows.laid_math_bits_deBruijn32tab), ("math/bits.deBruijn64tab", Rows.laid_math_bits_deBruijn64tab), ("internal/strconv.uint64pow10", Rows.laid_internal_strconv_uint64pow10), ("errors.errorType", Rows.laid_errors_errorType), ("strconv.ErrRange", Rows.laid_strconv_ErrRange), ("strconv.ErrSyntax", Rows.laid_strconv_ErrSyntax)]
theorem kv {W : World} (h : laidMetH Tryz.prog oS W) : laidMet Tryz.prog x8 W ∧ handlesMet Tryz.prog [("errors.errorType", Rows.laid_errors_errorType)] W := h
theorem BJ {W : World} (h' : laidMet Tryz.prog x8 W) : Tab W := by
 obtain ⟨ps, ⟨g', t', cs', fuel', p', q', _, _, _, _, hrest, _⟩, _⟩ := h'
 obtain ⟨g, t, cs, fuel, p, q, hg, ht, hvar, hd, _, _⟩ := hrest
 obtain rfl := Option.some.inj (gT64.symm.trans hg)
 obtain rfl := Option.some.inj (gT64type.symm.trans ht)
 have hdat : (Rows.laid_math_bits_deBruijn64tab : DataW Unit) = Lib.tabData .u8 (Lib.deBruijn64tab.map fun n : Nat => (n : Int)) := by rfl
 rw [hdat] at hd
 have hcs := Lib.cells_of_tab Tryz.underlying352 Tryz.underlying5 (by kernel_rfl) (by kernel_rfl) hd
 have ht : Lib.TabIs Tryz.prog W "math/bits.deBruijn64tab" .u8 (Lib.deBruijn64tab.map fun n : Nat => (n : Int)) := by
  unfold Lib.TabIs
  rw [hvar, ← hcs]
 intro j hj
 have := ht.cell gT64 j (by simpa using hj)
 rw [this]
 simp [List.getD, hj]
theorem xh {W : World} (h' : handlesMet Tryz.prog [("errors.errorType", Rows.laid_errors_errorType)] W) : W.cell? ⟨0, 0, none⟩ = some (.iface 314 (.agg #[.pointer (some ⟨Tryz.prog.globals.size, 109, none⟩)])) := by
 obtain ⟨name, u, ty, e1, e2, e3, e4, e5⟩ := h' _ (List.mem_singleton.2 rfl)
 have en : name = [101, 114, 114, 111, 114] := (Option.some.inj e1).symm
 subst en
 obtain rfl := Option.some.inj (rtypeIs.symm.trans e2)
 have hm : ty ∈ (List.range Tryz.prog.types.size).filter fun t => Tryz.prog.rowNamed t [101, 114, 114, 111, 114] := List.mem_filter.2 ⟨List.mem_range.2 e3, e4⟩
 rw [B0] at hm
 obtain rfl := List.mem_singleton.1 hm
 have hh : typeHandle Tryz.prog 109 = .pointer (some ⟨Tryz.prog.globals.size, 109, none⟩) := by kernel_rfl
 rw [hh] at e5
 simpa using World.var?_cell gErr e5 0
theorem gPow : Tryz.prog.globalNamed "internal/strconv.uint64pow10" = some 5 := by kernel_rfl
theorem gPowType : (Tryz.prog.globals[5]?).map (·.type) = some 423 := by kernel_rfl
theorem gSyn : Tryz.prog.globalNamed "strconv.ErrSyntax" = some 3 := by kernel_rfl
theorem zx : (Tryz.prog.globals[3]?).map (·.type) = some 109 := by kernel_rfl
theorem _root_.Go.laidMet.head1 {P : Program} {x : String × DataW Unit} {r : List (String × DataW Unit)} {w : World} (h : laidMet P (x :: r) w) : laidMet P [x] w := by
 obtain ⟨ps, hv, db, hrows⟩ := h
 obtain ⟨n, d⟩ := x
 obtain ⟨g, t, cs, fuel, p, q, h1, h2, h3, h4, hq, rfl⟩ := hv
 have hsub : (MemPlace.row ⟨g, 0, none⟩ cs.size ++ p ++ []).Sublist (MemPlace.row ⟨g, 0, none⟩ cs.size ++ p ++ q) := by
  rw [List.append_nil]
  exact List.sublist_append_left _ _
 exact ⟨MemPlace.row ⟨g, 0, none⟩ cs.size ++ p ++ [], ⟨g, t, cs, fuel, p, [], h1, h2, h3, h4, rfl, rfl⟩, List.Nodup.sublist hsub db, fun b off hm => hrows b off (hsub.subset hm)⟩
theorem y2 {W : World} (h : laidMetH Tryz.prog oS W) : laidMet Tryz.prog [("internal/strconv.uint64pow10", Rows.laid_internal_strconv_uint64pow10)] W :=
 (kv h).1.tail.tail.head1
theorem yO {W : World} (h : laidMetH Tryz.prog oS W) : laidMet Tryz.prog [("strconv.ErrSyntax", Rows.laid_strconv_ErrSyntax)] W :=
 (kv h).1.tail.tail.tail.tail
theorem BX {W : World} (h' : laidMet Tryz.prog [("internal/strconv.uint64pow10", Rows.laid_internal_strconv_uint64pow10)] W) : Lib.TabIs Tryz.prog W "internal/strconv.uint64pow10" .u64 Lib.pow10Tab := by
 obtain ⟨ps, hrest, _⟩ := h'
 obtain ⟨g, t, cs, fuel, p, q, hg, ht, hvar, hd, _, _⟩ := hrest
 obtain rfl := Option.some.inj (gPow.symm.trans hg)
 obtain rfl := Option.some.inj (gPowType.symm.trans ht)
 have hdat : (Rows.laid_internal_strconv_uint64pow10 : DataW Unit) = Lib.tabData .u64 Lib.pow10Tab := by rfl
 rw [hdat] at hd
 have hcs := Lib.cells_of_tab Tryz.underlying423 Tryz.underlying51 (by kernel_rfl) (by kernel_rfl) hd
 unfold Lib.TabIs
 rw [hvar, ← hcs]
theorem BO {W : World} (h : laidMet Tryz.prog [("strconv.ErrSyntax", Rows.laid_strconv_ErrSyntax)] W) : ∃ t p, W.cell? ⟨3, 0, none⟩ = some (.iface t p) := by
 have rowS : ∀ u, Tryz.prog.typeName? 3 u = some "*errors.errorString" → u = 408 := fun u h => typeName_ptr_named (nm := "errors.errorString") (by rw [show "*" ++ "errors.errorString" = "*errors.errorString" by decide]; kernel_rfl) (by kernel_rfl) (by decide) u (by rw [show "*" ++ "errors.errorString" = "*errors.errorString" by decide]; exact h)
 obtain ⟨a0, s0, hv0, -, -, -⟩ := laid_sentinel h gSyn zx Tryz.underlying109 rowS Tryz.underlying408 Tryz.underlying410 rfl rfl Tryz.underlying9 (by kernel_rfl) (by kernel_rfl)
 exact ⟨_, _, by have h0 := World.var?_cell gSyn hv0 0; simpa using h0⟩
abbrev fixedAt : List Nat := [2, 0, 3, 5]
noncomputable def jp (W : World) : Env := ⟨W.os, W.tape, W.output, fixedAt.filterMap fun g => (W.heap[g]?).map fun o => (g, o)⟩
theorem rN (W : World) : (jp W).is W := by
 refine ⟨rfl, rfl, rfl, fun p hp => ?_⟩
 unfold jp at hp
 obtain ⟨g, _, hg⟩ := List.mem_filterMap.1 hp
 cases ho : W.heap[g]? with
 | none => rw [ho] at hg; cases hg
 | some o =>
  rw [ho] at hg
  injection hg with hg
  subst hg
  exact ho
theorem og {W w : World} (h : (jp W).is w) {b : Nat} (hb : b ∈ fixedAt) (hlt : b < W.heap.size) : w.heap[b]? = W.heap[b]? := by
 obtain ⟨ob, hob⟩ : ∃ ob, W.heap[b]? = some ob := ⟨_, Array.getElem?_eq_getElem hlt⟩
 have hm : (b, ob) ∈ (jp W).fixed := by
  unfold jp
  exact List.mem_filterMap.2 ⟨b, hb, by rw [hob]; rfl⟩
 have := h.fixed _ hm
 simp only at this
 rw [this, hob]
theorem lQ {W w : World} (h : (jp W).is w) {b o : Nat} {v : Value} (hb : b ∈ fixedAt) (hv : W.cell? ⟨b, o, none⟩ = some v) : w.cell? ⟨b, o, none⟩ = some v := by
 have := og h hb (World.block_lt_of_cell? _ _ hv)
 rw [← hv]
 simp only [World.cell?, this]
theorem sW {W w : World} (h : (jp W).is w) {n : String} {k : IntKind} {zs : List Int} {g : Nat} (hg : Tryz.prog.globalNamed n = some g) (hb : g ∈ fixedAt) (hv : Lib.TabIs Tryz.prog W n k zs) : Lib.TabIs Tryz.prog w n k zs := by
 unfold Lib.TabIs World.var? at hv ⊢
 rw [hg] at hv ⊢
 simp only [Option.bind_some] at hv ⊢
 have hlt : g < W.heap.size := by
  refine Nat.lt_of_not_le fun hle => ?_
  rw [Array.getElem?_eq_none hle] at hv
  cases hv
 rw [og h hb hlt]
 exact hv
theorem AR {W : World} (h : laidMetH Tryz.prog oS W) : Good (jp W) := by
 obtain ⟨h1, h2⟩ := kv h
 obtain ⟨t, p, hs⟩ := BO (yO h)
 exact ⟨fun w hw j hj => lQ hw (by decide) (BJ h1 j hj), fun w hw => lQ hw (by decide) (xh h2), fun w hw => ⟨t, p, lQ hw (by decide) hs⟩, fun w hw => sW hw gPow (by decide) (BX (y2 h))⟩
theorem Gives.run {f : FuncId} {args : Array Value} {φ : World → Prop} {R : Value → List HP → Prop} (h : Gives Tryz.prog Good f args φ R) {W : World} (hL : laidMetH Tryz.prog oS W) (hφ : φ W) : Calls Tryz.prog f args W fun e W' => ∃ v m, e = .returned v ∧ R v m ∧ Below W.heap.size W W' :=
 (h (jp W) W (AR hL) (rN W) hφ).mono fun e w' ⟨v, m, he, hR, hh⟩ => ⟨v, m, he, hR, by
  have hs : Sel (SL.old (jp W) W) (m ++ [SL.old (jp W) W]) (m ++ []) := Sel.app' m
  exact hh.old hs (rN W)⟩
where
 Sel.app' : ∀ (m : List HP) {p : HP}, Sel p (m ++ [p]) (m ++ [])
 | [], _ => .head
 | _ :: m, _ => .tail (Sel.app' m)
def lay64 : Obj → Obj
 | .cells _ t frozen => .cells #[.int .u8 0, .int .u8 1, .int .u8 56, .int .u8 2, .int .u8 57, .int .u8 49, .int .u8 28, .int .u8 3, .int .u8 61, .int .u8 58, .int .u8 42, .int .u8 50, .int .u8 38, .int .u8 29, .int .u8 17, .int .u8 4, .int .u8 62, .int .u8 47, .int .u8 59, .int .u8 36, .int .u8 45, .int .u8 43, .int .u8 51, .int .u8 22, .int .u8 53, .int .u8 39, .int .u8 33, .int .u8 30, .int .u8 24, .int .u8 18, .int .u8 12, .int .u8 5, .int .u8 63, .int .u8 55, .int .u8 48, .int .u8 27, .int .u8 60, .int .u8 41, .int .u8 37, .int .u8 16, .int .u8 46, .int .u8 35, .int .u8 44, .int .u8 21, .int .u8 52, .int .u8 32, .int .u8 23, .int .u8 11, .int .u8 54, .int .u8 26, .int .u8 40, .int .u8 15, .int .u8 34, .int .u8 20, .int .u8 31, .int .u8 10, .int .u8 25, .int .u8 14, .int .u8 19, .int .u8 9, .int .u8 13, .int .u8 8, .int .u8 7, .int .u8 6] t frozen
 | o => o
def lay32 : Obj → Obj
 | .cells _ t frozen => .cells #[.int .u8 0, .int .u8 1, .int .u8 28, .int .u8 2, .int .u8 29, .int .u8 14, .int .u8 24, .int .u8 3, .int .u8 30, .int .u8 22, .int .u8 20, .int .u8 15, .int .u8 25, .int .u8 17, .int .u8 4, .int .u8 8, .int .u8 31, .int .u8 27, .int .u8 13, .int .u8 23, .int .u8 21, .int .u8 19, .int .u8 16, .int .u8 7, .int .u8 26, .int .u8 12, .int .u8 18, .int .u8 6, .int .u8 11, .int .u8 5, .int .u8 10, .int .u8 9] t frozen
 | o => o
noncomputable def B7 : Obj → Obj
 | .cells _ t frozen => .cells #[.iface 314 (.agg #[.pointer (some ⟨Tryz.prog.globals.size, 109, none⟩)])] t frozen
 | o => o
def B6 : Obj → Obj
 | .cells _ t frozen => .cells #[.int .u64 1, .int .u64 10, .int .u64 100, .int .u64 1000, .int .u64 10000, .int .u64 100000, .int .u64 1000000, .int .u64 10000000, .int .u64 100000000, .int .u64 1000000000, .int .u64 10000000000, .int .u64 100000000000, .int .u64 1000000000000, .int .u64 10000000000000, .int .u64 100000000000000, .int .u64 1000000000000000, .int .u64 10000000000000000, .int .u64 100000000000000000, .int .u64 1000000000000000000, .int .u64 10000000000000000000] t frozen
 | o => o
abbrev rngS : ByteArray := { data := #[118, 97, 108, 117, 101, 32, 111, 117, 116, 32, 111, 102, 32, 114, 97, 110, 103, 101] }
abbrev synS : ByteArray := { data := #[105, 110, 118, 97, 108, 105, 100, 32, 115, 121, 110, 116, 97, 120] }
noncomputable def low : Nat := (World.holding Tryz.prog default ⟨#[], #[], []⟩).heap.size
noncomputable def vv (b : Nat) : Obj → Obj
 | .cells _ t frozen => .cells #[.iface 408 (.pointer (some ⟨b, 0, none⟩))] t frozen
 | o => o
noncomputable def gE (os : Os) : World :=
 let w0 := World.holding Tryz.prog os ⟨#[.cells #[.string rngS] 410, .cells #[.string synS] 410], #[], []⟩
 { w0 with heap := (((((w0.heap.modify 2 lay64).modify 1 lay32).modify 0 B7).modify 5 B6).modify 4 (vv low)).modify 3 (vv (low + 1)) }
theorem zo (os : Os) (args : Array Value) (hm : laidMet Tryz.prog x8 ((gE os).forCall (fun _ _ => 0) ⟨#[], args, []⟩).memory) (hh : ([("errors.errorType", (Rows.laid_errors_errorType : DataW Unit))].all (handleAtB Tryz.prog ((gE os).forCall (fun _ _ => 0) ⟨#[], args, []⟩).memory)) = true) :
 laidMetH Tryz.prog oS ((gE os).forCall (fun _ _ => 0) ⟨#[], args, []⟩).memory :=
 laidMetH_of_parts hm hh
theorem lq {a : Assume} {C : Checked} {os : Os} {f : FuncId} {r : Reach} {Pre : World → Array Value → Prop} {Post : World → Array Value → Value → World → Prop} (h : ReturnsInHanded a C os f r Pre Post) : ReturnsInLeavingWide a C os f r Pre Post :=
 fun enter => ReturnsInOpen.mono (fun _ _ _ x => ⟨x.2.1, onlyLeaving_of_quiet x.1, x.2.2⟩) (fun _ x => x) (h enter)
theorem mJ (Lk : Looks) {p : Pinned} {s : OpenSpec} {c : OpenClaim} (kinds : List LaidKind) (tests : Bool) (har : Bool × String) (lk : Bool)
 (hc : c.holds p s) (hw : c.wfByText s = true) (htie : c.laidByTextAt Lk p kinds tests)
 (hst : c.start = .entering) (hnb : c.noBlocks = false ∧ c.again = false) (hm : p.checked.prog.mainIs = some (har.1, har.2.toList)) (hn : (!har.1 && har.2.isEmpty && !lk) = false)
 (hl : ∀ f fn, p.checked.prog.funcNamed c.func = some f → p.checked.prog.funcs[f]? = some fn → lk = p.checked.prog.looks [] ∧ ∀ (j : Nat) t, fn.params[j]? = some t → p.checked.prog.wantsStandIn t = false)
 (hg : true = c.goesBy p.checked.prog) :
 Claim7.holds p (.plain s) { stood := { row := c, standIns := [], harness := har, looks := lk }, kinds := [], alts := [], goes := true, laidByText := true, laidKinds := kinds, laidTests := tests, laidLooks := Lk } := by
 have h6 : ∀ r : OpenClaim, Claim7.isSixth { stood := { row := r, standIns := [], harness := har, looks := lk }, kinds := [] } = false := fun r => by simpa [Claim7.isSixth] using hn
 exact ⟨Claim7.tied_new_at Lk kinds tests (Claim7.new_of_sixth hc har lk hst hnb hm (h6 c) hl) hw, (fun D hD => by cases hD), htie, (fun h => by cases h), hg⟩
set_option maxRecDepth 100000 in
theorem pn {H : Type} {enc : TypeId × Value → H} {w : World} {r : Reach} {b0 : Nat} {v : Value} {d : DataW H} {p : List MemPlace} (hv : Value.okWide Tryz.prog w r b0 24 v) (h : DataW.Trod enc Tryz.prog w 0 (fun _ => true) true 24 v d p) :
 ∃ A c l, v = .slice A l.length c ∧ IntsAt w w.heap.size A c l := by
 obtain ⟨fuel, hf⟩ := h
 obtain ⟨a, n, k, rfl⟩ := okWide_slice Tryz.underlying24 hv
 have hc : (Value.slice a n k).cells.toList = [.slice a n k] := by simp [Value.cells]
 rw [hc] at hf
 obtain ⟨A, c, l, h1, h2, _⟩ := sA hf
 exact ⟨A, c, l, h1, h2⟩
end Go.Proofs.YtmeegfamopaljaaGreatDoor

namespace Go.Proofs.YtmeegfamopaljaaGreatDoor
open Go
theorem tV : mapsRowed Tryz.prog = true := by kernel_rfl
theorem w8 : (false == Tryz.prog.plainKeys) = true := by kernel_rfl
theorem oz : Tryz.prog.stopsHeard = true := by kernel_rfl
theorem zG : Tryz.prog.mayEnter = true := by kernel_rfl
theorem zl : (Rows.fifoRow.lifted == Tryz.prog.liftsFinal) = true := by kernel_rfl
theorem B5 : (Tryz.prog.make == some Rows.fifoRow.make) = true := by kernel_rfl
theorem xc {P : Program} {f : FuncId} {fn : Func} {s : ChangeSpec} {c : OpenClaim}
 (h1 : (c.wf (OpenSpec.ofChange s)) = true)
 (h2 : (laidOutB P) = true)
 (h3 : (mapsRowed P) = true)
 (h4 : (fn.params.all (P.readableRec ·)) = true)
 (h5 : (namedTie P c.named s.vars) = true)
 (h6 : ((c.stops == [])) = true)
 (h7 : ((P.stops == [])) = true)
 (h8 : ((c.knobs == [])) = true)
 (h9 : ((P.stopKnobs == [])) = true)
 (h10 : ((c.inPlace == P.inPlace f)) = true)
 (h11 : ((c.unfollowed == P.unfollowed f)) = true)
 (h12 : ((c.recurses == P.recurses f)) = true)
 (h13 : ((c.named == P.varsNamed f)) = true)
 (h14 : ((c.maps == (fn.params.toList ++ s.plain.varTypes P).any (P.mapsRec ·))) = true)
 (h15 : ((c.ifaces == (fn.params.toList ++ s.plain.varTypes P).any (P.ifacesRec ·))) = true)
 (h16 : ((c.mapsOut == P.mapsAmong fn.resultTypes.toList)) = true)
 (h17 : ((c.loops == (fn.params.toList ++ s.plain.varTypes P).any (P.loopsFrom ·))) = true)
 (h18 : ((c.wideKeys == (fn.params.toList ++ s.plain.varTypes P ++ fn.resultTypes.toList).any (P.wideKeysFrom ·))) = true)
 (h19 : (s.vars.all (P.varReadable ·)) = true)
 (h20 : (fn.resultTypes.all (fun t => P.readableRec t && decide (t < P.types.size))) = true)
 (h21 : ((c.ifacesOut == fn.resultTypes.toList.any (P.ifacesRec ·))) = true)
 (h22 : ((c.loopsOut == fn.resultTypes.toList.any (P.loopsFrom ·))) = true)
 (h23 : ((c.plainKeys == P.plainKeys)) = true)
 (h24 : (c.shortTexts.isNone) = true)
 (h25 : (P.stopsHeard) = true)
 (h26 : (P.mayEnter) = true)
 (h27 : ((c.lifted == P.liftsFinal)) = true)
 (h28 : ((P.make == some c.make)) = true)
 (h29 : ((c.kinds == (if c.domain.isEmpty then [] else fn.params.toList.map fun t => match P.underlying t with | some (.int k) => some k | _ => none))) = true)
 (h30 : ((c.pinned == c.pinnedBy)) = true)
 (h31 : ((c.veiled == (fn.params.toList ++ s.plain.varTypes P ++ fn.resultTypes.toList).any (P.veiledRec ·))) = true)
 (h32 : (c.veiledFits P fn.params.toList (fn.params.toList ++ s.plain.varTypes P ++ fn.resultTypes.toList)) = true) : joinedFacts P f fn s c = true := by
 unfold joinedFacts
 simp only [Bool.and_eq_true]
 exact ⟨⟨⟨⟨⟨⟨⟨⟨⟨⟨⟨⟨⟨⟨⟨⟨⟨⟨⟨⟨⟨⟨⟨⟨⟨⟨⟨⟨⟨⟨⟨h1, h2⟩, h3⟩, h4⟩, h5⟩, h6⟩, h7⟩, h8⟩, h9⟩, h10⟩, h11⟩, h12⟩, h13⟩, h14⟩, h15⟩, h16⟩, h17⟩, h18⟩, h19⟩, h20⟩, h21⟩, h22⟩, h23⟩, h24⟩, h25⟩, h26⟩, h27⟩, h28⟩, h29⟩, h30⟩, h31⟩, h32⟩
end Go.Proofs.YtmeegfamopaljaaGreatDoor
