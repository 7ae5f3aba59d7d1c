/- The walks beneath the law Reckoned, and its own. -/
import Derived.Test.YthojajhbcmkjfaaDoorTurn
import Derived.Test.YthojajhbcmkjfaaDoorFlowA
import Derived.Test.YthojajhbcmkjfaaDoorRest
import Derived.Test.YthojajhbcmkjfaaDoorCheckB
import Derived.Test.YthojajhbcmkjfaaDoorRefCheckB
import Derived.Deep.RegionWith
import Derived.WideLaws
import Derived.Deep.DeepCutAuto
namespace Go.Proofs.YthojajhbcmkjfaaDoor
open Go Go.RowKit Go.Deep

theorem NodesAt.ranges {w : World} {B : Nat} {A : Option Addr} {c : Nat} {l : List FK.Node} (h : NodesAt w B A c l) :
    ∀ n ∈ l, (i64 n.budget ∧ i64 n.close ∧ i64 n.beat ∧ i64 n.base ∧ i64 n.cap ∧ i64 n.jitter) ∧ ∀ x ∈ n.after, i64 x := by
  intro n hn
  obtain ⟨i, hi, rfl⟩ := List.mem_iff_getElem.1 hn
  obtain ⟨b, off, _, _, hc⟩ := h.cells (by omega)
  have := hc i l[i] (by simp [hi])
  obtain ⟨A, c, _, hi6⟩ := this.c6
  exact ⟨this.rng, hi6.rng⟩

def clampGap (gap : Int) : Int := min (max gap 0) 1048576
noncomputable def boundOf (f : FK.Flow) (gap : Int) : Int := if (FK.chk f).1 = 0 then min (boundSum (clampGap gap) f.nodes) f.deadline else 0

set_option maxHeartbeats 1000000 in
theorem fk_Bound_calls (w : World) (B : Nat) (A : Option Addr) (c : Nat) (f : FK.Flow) (gap : Int) (hB : B ≤ w.heap.size) (hN : NodesAt w B A c f.nodes) (hT : Tab w) :
    Calls Tryd.prog 28 #[.agg #[.int .i64 f.deadline, .slice A f.nodes.length c], .int .i64 gap] w fun e w' => e = .returned (.int .i64 (boundOf f gap)) ∧ Below w.heap.size w w' := by
  have HN := Lib.hid hN
  have HT := Lib.hid hT
  clear hN hT
  go_enter Tryd.func28, Tryd.ntmps28
  go_wp2_with (fail)
  refine (flow_Check_calls _ B A c f (by simp; omega) (HN.out.keep fun x hx => Below.heap_alloc _ _ _ (by omega)) (HT.out.below ((Below.refl _ _).alloc (Nat.le_refl _) _))).mono ?_
  rintro e w2 ⟨v, rfl, herr, hb⟩
  have hb2 : Below w.heap.size w w2 := ((Below.refl _ _).alloc (Nat.le_refl _) _).trans (hb.mono (by simp))
  have hsz : w.heap.size < w2.heap.size := by have := hb.size; simp at this; omega
  have hc0 : w2.cell? ⟨w.heap.size, 0, none⟩ = some (.int .i64 f.deadline) := by rw [hb.to_same.cell (by simp)]; go_simp
  have hc1 : w2.cell? ⟨w.heap.size, 1, none⟩ = some (.slice A f.nodes.length c) := by rw [hb.to_same.cell (by simp)]; go_simp
  have HB2 := Lib.hid hb2
  rcases herr with ⟨h0, rfl⟩ | ⟨h0, b, rfl, hbb, hk⟩
  · have hfit := FK.chk_zero h0
    have HR : Hid (boundOf f gap = min (boundSum (clampGap gap) f.nodes) f.deadline) := by unfold boundOf; rw [if_pos h0]; rfl
    have HFIT := Lib.hid hfit
    have hnk : ∀ n ∈ f.nodes, FK.NodeOk n := fun n hn => by
      obtain ⟨i, hi, rfl⟩ := List.mem_iff_getElem.1 hn
      exact (hfit.nodes i _ hi (by simp [hi])).1
    have HNK := Lib.hid hnk
    have HC : Hid (∀ g, g = clampGap gap → boundOf f gap = min (boundSum g f.nodes) f.deadline) := fun g hg => by rw [hg]; exact HR.out
    have h12 := hfit.head.2.2
    clear hb hb2 h0 hfit hnk
    go_wp2_with (fail)
    all_goals
      refine (flow_Bound_calls w2 B f.deadline A c f.nodes _ (by omega) (HN.out.keep (HB2.out.to_same.mono hB)) h12 HNK.out (by omega) (by omega)).mono ?_
      rintro e w3 ⟨rfl, hb3⟩
      have HB3 := Lib.hid hb3
      clear hb3
      go_wp2
      go_ret
      exact ⟨ret_int (HC.out _ (by unfold clampGap; omega)).symm, HB2.out.trans (HB3.out.mono HB2.out.size)⟩
  · have HR : Hid (boundOf f gap = 0) := by unfold boundOf; rw [if_neg h0]; rfl
    clear hb hb2 h0 hk
    go_wp2
    go_ret
    exact ⟨ret_int HR.out.symm, HB2.out⟩

/-- a copy of its own, asked, and written into -/
theorem own_turned {w w' : World} {base : Nat} {A : Option Addr} {c : Nat} {l : List FK.Node} {vs : List Value} (h : OwnNodes w base (.slice A l.length c) l vs) (hs : Same w.heap.size w w') : TurnInv w' base A l 0 := h.turnInv.keep hs

set_option maxHeartbeats 1000000 in
theorem plain_Bound_calls (w : World) (B : Nat) (A : Option Addr) (c : Nat) (f : FK.Flow) (gap : Int) (hB : B ≤ w.heap.size) (hN : NodesAt w B A c f.nodes) (hT : Tab w) (hfit : FlowFits f.nodes) :
    Calls Tryd.prog 9 #[.agg #[.int .i64 f.deadline, .slice A f.nodes.length c], .int .i64 gap] w fun e w' => e = .returned (.int .i64 (boundOf f gap)) ∧ Below w.heap.size w w' := by
  have HN := Lib.hid hN
  have HT := Lib.hid hT
  have HR := Lib.hid hN.ranges
  clear hN hT
  go_enter Tryd.func9, Tryd.ntmps9
  go_wp2_with (fail)
  refine (copied_calls _ B f.deadline A c f.nodes (by simp; omega) (HN.out.keep fun x hx => Below.heap_alloc _ _ _ (by omega)) hfit).mono ?_
  rintro e w2 ⟨A2, c2, vs, rfl, hown, hb⟩
  have hsz : w.heap.size < w2.heap.size := by have := hb.size; simp at this; omega
  have HB2 : Hid (Below w.heap.size w w2) := ((Below.refl _ _).alloc (Nat.le_refl _) _).trans (hb.mono (by simp))
  simp only [World.size_alloc] at hown
  have HOWN := Lib.hid hown
  have HC := Lib.hid (own_form hown.row)
  clear hown hb
  go_wp2_with (fail)
  have hb3 : Below w.heap.size w (w2.alloc (.cells #[.int .i64 f.deadline, .slice A2 f.nodes.length c2] 24)) := HB2.out.alloc (by omega) _
  refine (fk_Bound_calls _ w2.heap.size A2 c2 f gap (by simp) ((HOWN.out.nodesAt HR.out).keep fun x hx => Below.heap_alloc _ _ _ hx) (HT.out.below hb3)).mono ?_
  rintro e w3 ⟨rfl, hbb⟩
  have hs3 : Same w2.heap.size w2 w3 := fun x hx => (hbb.block x (by simp; omega)).trans (Below.heap_alloc _ _ _ hx)
  have hsz3 : w2.heap.size < w3.heap.size := by have := hbb.size; simp at this; omega
  have hx0 : w3.cell? ⟨w2.heap.size, 0, none⟩ = some (.int .i64 f.deadline) := by rw [hbb.to_same.cell (by simp)]; go_simp
  have hx1 : w3.cell? ⟨w2.heap.size, 1, none⟩ = some (.slice A2 f.nodes.length c2) := by rw [hbb.to_same.cell (by simp)]; go_simp
  have HB3 : Hid (Below w.heap.size w w3) := hb3.trans (hbb.mono (by simp; omega))
  have HS3 := Lib.hid hs3
  clear hb3 hbb hs3
  go_wp2_with (fail)
  obtain ⟨A', c', hc1, _, hc2, hc3⟩ := HC.out
  injection hc1 with e1 _ e2
  subst e1; subst e2
  refine (turn_calls w3 (w.heap.size + 1) f.deadline A2 c2 f.nodes (by omega) (own_turned HOWN.out HS3.out) hc2 (by unfold maxLen at hc3; omega)).mono ?_
  rintro e w4 ⟨rfl, hb4⟩
  have HB4 := Lib.hid hb4
  clear hb4
  go_wp2
  go_ret
  exact ⟨rfl, HB3.out.trans (HB4.out.mono (by omega))⟩

set_option maxHeartbeats 400000 in
theorem fk_Rest_calls (bu cl be ba ca ji : Int) (A : Option Addr) (n c : Nat) (k seed : Int) (w : World)
    (h1 : 1 ≤ ba) (h2 : ba ≤ ca) (h3 : ca ≤ 1048576) (h4 : 0 ≤ ji) (h5 : ji ≤ 1048576) (hs0 : 0 ≤ seed) (hs1 : seed < 18446744073709551616) :
    Calls Tryd.prog 30 #[.agg #[.int .i64 bu, .int .i64 cl, .int .i64 be, .int .i64 ba, .int .i64 ca, .int .i64 ji, .slice A n c], .int .i64 k, .int .u64 seed] w
      fun e w' => e = .returned (.int .i64 (restOf ba ca ji k seed)) ∧ Below w.heap.size w w' := by
  go_enter Tryd.func30, Tryd.ntmps30
  go_wp2_with (go_at_call 51; refine (flow_Rest_calls bu cl be ba ca ji A n c k seed _ h1 h2 h3 h4 h5 hs0 hs1).mono ?_; rintro e w2 ⟨rfl, hb⟩)
  go_ret
  exact ⟨rfl, ((Below.refl _ _).alloc (Nat.le_refl _) _).trans (hb.mono (by simp))⟩

set_option maxHeartbeats 400000 in
theorem plain_Rest_calls (bu cl be ba ca ji : Int) (A : Option Addr) (n c : Nat) (k seed : Int) (w : World)
    (h1 : 1 ≤ ba) (h2 : ba ≤ ca) (h3 : ca ≤ 1048576) (h4 : 0 ≤ ji) (h5 : ji ≤ 1048576) (hs0 : 0 ≤ seed) (hs1 : seed < 18446744073709551616) :
    Calls Tryd.prog 12 #[.agg #[.int .i64 bu, .int .i64 cl, .int .i64 be, .int .i64 ba, .int .i64 ca, .int .i64 ji, .slice A n c], .int .i64 k, .int .u64 seed] w
      fun e w' => e = .returned (.int .i64 (restOf ba ca ji k seed)) ∧ Below w.heap.size w w' := by
  go_enter Tryd.func12, Tryd.ntmps12
  go_wp2_with (go_at_call 30; refine (fk_Rest_calls bu cl be ba ca ji A n c k seed _ h1 h2 h3 h4 h5 hs0 hs1).mono ?_; rintro e w2 ⟨rfl, hb⟩)
  go_ret
  exact ⟨rfl, ((Below.refl _ _).alloc (Nat.le_refl _) _).trans (hb.mono (by simp))⟩

/-- which of n things a raw number speaks of -/
def pickOf (c n : Int) : Int := (if c < 0 then -(c + 1) else c) % n

theorem pickOf_lt {c n : Int} (hn : 0 < n) : 0 ≤ pickOf c n ∧ pickOf c n < n := ⟨Int.emod_nonneg _ (by omega), Int.emod_lt_of_pos _ hn⟩

set_option maxHeartbeats 400000 in
theorem law_pick_calls (c n : Int) (w : World) (hc : i64 c) (hn : 0 < n) (hn2 : n ≤ 9223372036854775807) :
    Calls Tryd.prog 11 #[.int .i64 c, .int .i64 n] w fun e w' => e = .returned (.int .i64 (pickOf c n)) ∧ w = w' := by
  obtain ⟨c1, c2⟩ := hc
  by_cases h : c < 0
  · have HP : Hid (pickOf c n = (-(c + 1)) % n) := by unfold pickOf; rw [if_pos h]; rfl
    go_enter Tryd.func11, Tryd.ntmps11
    go_wp2
    go_ret
    exact ⟨ret_int (by rw [HP.out, ← Int.neg_tmod, Int.tmod_eq_emod_of_nonneg (by omega)]), rfl⟩
  · have HP : Hid (pickOf c n = c % n) := by unfold pickOf; rw [if_neg h]; rfl
    go_enter Tryd.func11, Tryd.ntmps11
    go_wp2
    go_ret
    exact ⟨ret_int (by rw [HP.out]), rfl⟩

set_option maxHeartbeats 1000000 in
theorem ref_Bound_calls (w : World) (B : Nat) (dl : Int) (A : Option Addr) (c : Nat) (l : List FK.Node) (gap : Int) (hB : B ≤ w.heap.size) (hn : NodesAt w B A c l) (hl : l.length ≤ 12)
    (ho : ∀ n ∈ l, FK.NodeOk n) (hg0 : 0 ≤ gap) (hg1 : gap ≤ 1048576) :
    Calls Tryd.prog 10 #[.agg #[.int .i64 dl, .slice A l.length c], .int .i64 gap] w fun e w' => e = .returned (.int .i64 (min (boundSum gap l) dl)) ∧ Below w.heap.size w w' := by
  obtain ⟨h1, h2, h3⟩ := hn
  go_enter Tryd.func10, Tryd.ntmps10
  go_wp2
  go_loopw [5, 6] (fun s i wr => ∃ k : Nat, k ≤ l.length ∧ i = .int .i64 k ∧ s = .int .i64 (boundSum gap (l.take k)) ∧ 0 ≤ boundSum gap (l.take k) ∧ boundSum gap (l.take k) ≤ k * 20971520 ∧ Below w.heap.size w wr ∧ w.heap.size < wr.heap.size ∧ wr.cell? ⟨w.heap.size, 0, none⟩ = some (.int .i64 dl) ∧ wr.cell? ⟨w.heap.size, 1, none⟩ = some (.slice A l.length c)) (fun _ i _ => l.length - (intOf i).toNat)
  case atStart => exact ⟨0, by omega, rfl, by simp [boundSum], by simp [boundSum], by simp [boundSum], (Below.refl _ _).alloc (Nat.le_refl _) _, by simp, by go_simp, by go_simp⟩
  case round =>
    obtain ⟨k, hk, rfl, rfl, hs0, hs1, hb, hz, hdl, hsl⟩ := hrel
    by_cases hlt : k < l.length
    · obtain ⟨b, off, rfl, hbB, hcell⟩ := h3 (by omega)
      have hnode := hcell k l[k] (by simp [hlt])
      have hnode := hnode.keep (hb.to_same.mono hB) hbB
      obtain ⟨c0, c1, c2, c3, c4, c5, ⟨A6, n6, c6, hi⟩, hr⟩ := hnode
      have hok := ho l[k] (List.getElem_mem _)
      have hterm := boundTerm hok hg0 hg1
      have hnext := Lib.hid (boundSum_take gap l k hlt)
      obtain ⟨a1, a2, ⟨b1, b2⟩, ⟨d1, d2⟩, ⟨e1, e2⟩, ⟨f1, f2⟩, g1, g2⟩ := hok
      clear hcell h3 hr hi ho
      go_wp2
      go_roundw
      case rel => exact ⟨k + 1, by omega, by go_num, by rw [hnext.out], by rw [hnext.out]; omega, by rw [hnext.out]; omega, hb.alloc (by omega) _, by simp; omega, by go_simp, by go_simp⟩
      case measure => simp [intOf]; omega
    · have hke : List.take k l = l := List.take_of_length_le (by omega)
      rw [hke] at hs0 hs1 ⊢
      go_wp2
      all_goals (go_ret; exact ⟨ret_int (by omega), hb⟩)

/-- **the law Reckoned**, its walk -/
theorem reckoned_core : True := trivial

set_option maxRecDepth 10000 in
set_option maxHeartbeats 20000000 in
theorem Reckoned_calls (w : World) (B : Nat) (A : Option Addr) (c : Nat) (f : FK.Flow) (node k seed gap : Int) (hB : B ≤ w.heap.size) (hN : NodesAt w B A c f.nodes) (hT : Tab w) (hfit : FlowFits f.nodes)
    (hno : i64 node) (hk : i64 k) (hs0 : 0 ≤ seed) (hs1 : seed < 18446744073709551616) :
    Calls Tryd.prog 3 #[.agg #[.int .i64 f.deadline, .slice A f.nodes.length c], .int .i64 node, .int .i64 k, .int .u64 seed, .int .i64 gap] w
      fun e w' => e = .returned (.bool true) ∧ Below w.heap.size w w' := by
  have HN := Lib.hid hN
  have HT := Lib.hid hT
  clear hN hT
  go_enter Tryd.func3, Tryd.ntmps3
  go_wp2_with (fail)
  refine (ref_Check_calls _ B A c f (by simp; omega) (HN.out.keep fun x hx => Below.heap_alloc _ _ _ (by omega))).mono ?_
  rintro e w2 ⟨rfl, hb⟩
  have HB2 : Hid (Below w.heap.size w w2) := ((Below.refl _ _).alloc (Nat.le_refl _) _).trans (hb.mono (by simp))
  have hsz : w.heap.size < w2.heap.size := by have := hb.size; simp at this; omega
  have hc0 : w2.cell? ⟨w.heap.size, 0, none⟩ = some (.int .i64 f.deadline) := by rw [hb.to_same.cell (by simp)]; go_simp
  have hc1 : w2.cell? ⟨w.heap.size, 1, none⟩ = some (.slice A f.nodes.length c) := by rw [hb.to_same.cell (by simp)]; go_simp
  clear hb
  obtain ⟨ce, hce⟩ : ∃ ce, ce = (FK.chk f).1 := ⟨_, rfl⟩
  obtain ⟨ca, hca⟩ : ∃ ca, ca = (FK.chk f).2 := ⟨_, rfl⟩
  rw [← hce, ← hca]
  have HCE := Lib.hid hce
  clear hce hca
  go_wp2_with (fail)
  refine (plain_Bound_calls w2 B A c f gap (by omega) (HN.out.keep (HB2.out.to_same.mono hB)) (HT.out.below HB2.out) hfit).mono ?_
  rintro e w3 ⟨rfl, hb⟩
  have HB3 : Hid (Below w.heap.size w w3) := HB2.out.trans (hb.mono (by omega))
  have hsz3 : w.heap.size < w3.heap.size := by have := hb.size; omega
  have hd0 : w3.cell? ⟨w.heap.size, 0, none⟩ = some (.int .i64 f.deadline) := by rw [hb.to_same.cell hsz]; exact hc0
  have hd1 : w3.cell? ⟨w.heap.size, 1, none⟩ = some (.slice A f.nodes.length c) := by rw [hb.to_same.cell hsz]; exact hc1
  clear hb hc0 hc1
  by_cases h0 : ce = 0
  · have hfitf := FK.chk_zero (HCE.out.symm.trans h0)
    obtain ⟨X, hX⟩ : ∃ X, X = boundOf f gap := ⟨_, rfl⟩
    have HX : Hid (∀ g, g = clampGap gap → min (boundSum g f.nodes) f.deadline = X) := fun g hg => by rw [hX, hg]; unfold boundOf; rw [if_pos (by rw [← HCE.out]; exact h0)]
    rw [← hX]
    have hne : (ce != 0) = false := by rw [h0]; rfl
    have hnk : ∀ n ∈ f.nodes, FK.NodeOk n := fun n hn => by
      obtain ⟨i, hi, rfl⟩ := List.mem_iff_getElem.1 hn
      exact (hfitf.nodes i _ hi (by simp [hi])).1
    have HNK := Lib.hid hnk
    have h12 := hfitf.head.2.2
    have h11 := hfitf.head.2.1
    obtain ⟨p0, p1⟩ := pickOf_lt (c := node) (n := (f.nodes.length : Int)) (by omega)
    obtain ⟨pn, hpn⟩ : ∃ pn : Nat, pickOf node f.nodes.length = (pn : Int) := ⟨(pickOf node f.nodes.length).toNat, by omega⟩
    have HPK : Hid (∀ W : World, Calls Tryd.prog 11 #[.int .i64 node, .int .i64 f.nodes.length] W fun e w' => e = .returned (.int .i64 (pn : Int)) ∧ W = w') := fun W => by rw [← hpn]; exact law_pick_calls node _ W hno (by omega) (by omega)
    have hplt : pn < f.nodes.length := by omega
    obtain ⟨b, off, rfl, hbB, hcell⟩ := HN.out.cells (by omega)
    obtain ⟨nd, hnd⟩ : ∃ nd, f.nodes[pn]? = some nd := ⟨f.nodes[pn], by simp⟩
    have hnode0 := hcell pn nd hnd
    have HNODE := Lib.hid hnode0
    have hndk := hnk nd (List.mem_of_getElem? hnd)
    obtain ⟨a1, a2, ⟨a3, a4⟩, ⟨a5, a6⟩, ⟨a7, a8⟩, ⟨a9, a10⟩, a11, a12⟩ := hndk
    have HFC := Lib.hid hcell
    have hlc := HN.out.len
    have hcc := HN.out.cap
    have HA : Hid ((1 ≤ nd.base ∧ nd.base ≤ 1048576) ∧ (nd.base ≤ nd.cap ∧ nd.cap ≤ 1048576) ∧ 0 ≤ nd.jitter ∧ nd.jitter ≤ 1048576) := ⟨⟨a7, a8⟩, ⟨a9, a10⟩, a11, a12⟩
    clear hfitf hX h0 hnk p0 p1 hpn hcell hnd hnode0 a1 a2 a3 a4 a5 a6 a7 a8 a9 a10 a11 a12 HFC HCE HT hfit
    go_wp2_with (fail)
    all_goals
      refine (ref_Bound_calls w3 B f.deadline _ c f.nodes _ (by omega) (HN.out.keep (HB3.out.to_same.mono hB)) h12 HNK.out (by omega) (by omega)).mono ?_
      rintro e w4 ⟨rfl, hb⟩
      rw [HX.out _ (by unfold clampGap; omega)]
      have HB4 : Hid (Below w.heap.size w w4) := HB3.out.trans (hb.mono (by omega))
      have hsz4 : w.heap.size < w4.heap.size := by have := hb.size; omega
      have hf1 : w4.cell? ⟨w.heap.size, 1, none⟩ = some (.slice (some ⟨b, off, none⟩) f.nodes.length c) := by rw [hb.to_same.cell hsz3]; exact hd1
      have hnode := HNODE.out.keep (HB4.out.to_same.mono hB) (by omega)
      obtain ⟨c0, c1, c2, c3, c4, c5, ⟨A6, n6, c6, hi⟩, hr⟩ := hnode
      have hblt : b < w4.heap.size := by omega
      clear hb hd0 hd1 hi hr HNODE HN HNK HX hlc hbB hB h12 h11 hsz3
      go_upto_region 11 with (fail)
      go_cut [16] (fun s16 wx => ∃ g : Nat, s16 = .pointer (some ⟨g, 0, none⟩) ∧ Blk wx g 32 #[.int .i64 nd.budget, .int .i64 nd.close, .int .i64 nd.beat, .int .i64 nd.base, .int .i64 nd.cap, .int .i64 nd.jitter, .slice A6 nd.after.length n6] ∧ Below w.heap.size w wx ∧ w.heap.size ≤ g)
      case first =>
        go_region_with (go_at_call 11; refine (HPK.out _).mono ?_; rintro e w5 ⟨rfl, rfl⟩)
        all_goals
          go_wp2_with (fail)
          go_meet
          exact ⟨w4.heap.size, rfl, Blk.made w4 _ _, (by (repeat (first | with_reducible refine below_drewN ?_ _ | with_reducible refine Below.drew ?_ | with_reducible refine Below.alloc ?_ (by first | omega | (simp; done) | (simp; omega)) _ | with_reducible refine Below.setCell ?_ (by first | omega | (simp; done) | (simp; omega)) _)); exact HB4.out), by omega⟩
      case rest =>
        obtain ⟨g, rfl, hblk, hb5, hg5⟩ := hcut
        have HBL := Lib.hid hblk
        have HB5 := Lib.hid hb5
        have hglt := hblk.lt
        have hs5 := hb5.size
        have x0 := hblk.cell 0
        have x1 := hblk.cell 1
        have x2 := hblk.cell 2
        have x3 := hblk.cell 3
        have x4 := hblk.cell 4
        have x5 := hblk.cell 5
        have x6 := hblk.cell 6
        simp only [List.getElem?_toArray, List.getElem?_cons_zero, List.getElem?_cons_succ] at x0 x1 x2 x3 x4 x5 x6
        clear hblk hb5 c0 c1 c2 c3 c4 c5 c6 hf1 hblt
        go_wp2_with (fail)
        refine (plain_Rest_calls nd.budget nd.close nd.beat nd.base nd.cap nd.jitter A6 nd.after.length n6 k seed _ HA.out.1.1 HA.out.2.1.1 HA.out.2.1.2 HA.out.2.2.1 HA.out.2.2.2 hs0 hs1).mono ?_
        rintro e w6 ⟨rfl, hb6⟩
        have hblk6 := HBL.out.same hb6.to_same hglt
        have HB6 := Lib.hid (HB5.out.trans (hb6.mono hs5))
        have hs6 := hb6.size
        have y0 := hblk6.cell 0
        have y1 := hblk6.cell 1
        have y2 := hblk6.cell 2
        have y3 := hblk6.cell 3
        have y4 := hblk6.cell 4
        have y5 := hblk6.cell 5
        have y6 := hblk6.cell 6
        simp only [List.getElem?_toArray, List.getElem?_cons_zero, List.getElem?_cons_succ] at y0 y1 y2 y3 y4 y5 y6
        clear hblk6 hb6 x0 x1 x2 x3 x4 x5 x6
        obtain ⟨R, hR⟩ : ∃ R, R = restOf nd.base nd.cap nd.jitter k seed := ⟨_, rfl⟩
        rw [← hR]
        have HR := Lib.hid hR
        clear hR
        go_wp2_with (fail)
        refine (ref_Rest_calls nd.budget nd.close nd.beat nd.base nd.cap nd.jitter A6 nd.after.length n6 k seed _ HA.out.1.1 HA.out.2.1.1 HA.out.2.1.2 HA.out.2.2.1 HA.out.2.2.2 hk hs0 hs1).mono ?_
        rintro e w7 ⟨rfl, hb7⟩
        rw [← HR.out]
        have HB7 := Lib.hid (HB6.out.trans (hb7.mono (by omega)))
        clear hb7 y0 y1 y2 y3 y4 y5 y6
        go_wp2
        go_ret
        exact ⟨rfl, HB7.out⟩
  · have HR : Hid (boundOf f gap = 0) := by unfold boundOf; rw [if_neg (by rw [← HCE.out]; exact h0)]; rfl
    rw [HR.out]
    have hne : (ce != 0) = true := by rw [bne_iff_ne]; exact h0
    go_wp2
    go_ret
    exact ⟨rfl, HB3.out⟩
end Go.Proofs.YthojajhbcmkjfaaDoor
