/- The walk of the document's Check: its body. -/
import Derived.Test.YtagkobkmaigfcaaDoorRefCheck
namespace Go.Proofs.YtagkobkmaigfcaaDoor
open Go Go.RowKit Go.Deep

theorem LastRel.start (len : Nat) (l : List Int) : LastRel len l 0 := by simp [LastRel]
theorem LastRel.at_ {len : Nat} {l : List Int} {m : Nat} {x prev : Int} (h : LastRel len l m) (hx : l[m]? = some x) (hp : 0 < m → l[m - 1]? = some prev) :
    FK.EdgesOk len (-1) l ↔ ((if m = 0 then -1 else prev) < x ∧ x < len ∧ FK.EdgesOk len x (l.drop (m + 1))) := by
  obtain ⟨hm, hx⟩ := List.getElem?_eq_some_iff.1 hx
  unfold LastRel at h
  rw [h, edges_drop hm, hx]
  by_cases h0 : m = 0
  · simp [h0]
  · have := hp (by omega)
    simp [h0, this]
theorem LastRel.next {len : Nat} {l : List Int} {m : Nat} {x prev : Int} (h : LastRel len l m) (hx : l[m]? = some x) (hp : 0 < m → l[m - 1]? = some prev) (h1 : (if m = 0 then -1 else prev) < x) (h2 : x < len) : LastRel len l (m + 1) := by
  have := h.at_ hx hp
  unfold LastRel
  rw [this]
  simp [h1, h2, hx]
theorem LastRel.ended {len : Nat} {l : List Int} {m : Nat} (h : LastRel len l m) (hm : l.length ≤ m) : FK.EdgesOk len (-1) l := by
  unfold LastRel at h
  rw [h, List.drop_of_length_le hm]
  trivial

def AcTo (l : List FK.Node) (j : Nat) : Prop := ∀ i, i < j → FK.Ac l i

set_option maxRecDepth 100000 in
set_option maxHeartbeats 8000000 in
theorem ref_check_body (w : World) (B : Nat) (A : Option Addr) (c : Nat) (f : FK.Flow) (hB : B ≤ w.heap.size) (hN : NodesAt w B A c f.nodes)
    (hh : FK.HeadOk f) : Calls Tryd.prog 8 #[.agg #[.int .i64 f.deadline, .slice A f.nodes.length c]] w (ChkPost w (FK.chk f)) := by
  have hhead := hh
  obtain ⟨⟨d1, d2⟩, l1, l2⟩ := hhead
  have HN := Lib.hid hN
  have HH := Lib.hid hh
  have g1 := hN.len
  have g2 := hN.cap
  clear hh hN
  have hz : ((f.nodes.length : Int) == 0) = false := by rw [beq_eq_false_iff_ne]; omega
  have hmk : ∀ W : World, (Instr.makeSlice 44 (.int .i64 (f.nodes.length : Int)) (.int .i64 (f.nodes.length : Int))).run Tryd.prog W = .ok (.slice (some ⟨W.heap.size, 0, none⟩) f.nodes.length f.nodes.length) (W.alloc (.cells (boolCells (List.replicate f.nodes.length false)) 4)) := fun W => by
    rw [← boolCells_made]
    exact run_make_row' (P := Tryd.prog) 44 4 (.bool false) 1 Tryd.underlying44 (by kernel_rfl) rfl .i64 .i64 f.nodes.length (by omega) (by omega) W
  have HMK := Lib.hid hmk
  clear hmk
  go_enter Tryd.func8, Tryd.ntmps8
  go_wp2_with (go_at_call 26; refine (ref_span_yes _ _ _ (by omega) (by omega)).mono ?_; rintro e w2 ⟨rfl, rfl⟩)
  go_loopw [5] (fun i wr => ∃ k : Nat, k ≤ f.nodes.length ∧ i = .int .i64 k ∧ FK.OkTo f k ∧ Below w.heap.size w wr ∧ w.heap.size < wr.heap.size ∧ wr.cell? ⟨w.heap.size, 1, none⟩ = some (.slice A f.nodes.length c)) (fun i _ => f.nodes.length - (intOf i).toNat)
  case atStart => exact ⟨0, by omega, rfl, fun j n hj => by omega, (by repeat (first | assumption | exact Below.refl _ _ | refine below_drewN ?_ _ | refine Below.drew ?_ | refine Below.alloc ?_ (by first | omega | (simp; done) | (simp; omega)) _ | refine Below.setCell ?_ (by first | omega | (simp; done) | (simp; omega)) _)), by simp, by go_simp⟩
  case round =>
    obtain ⟨k, hk, rfl, hok, hb, hsz, hcf⟩ := hrel
    by_cases hlt : k < f.nodes.length
    · obtain ⟨b, off, rfl, hbB, hcell⟩ := HN.out.cells (by omega)
      have hkn : f.nodes[k]? = some f.nodes[k] := by simp [hlt]
      obtain ⟨n, hn⟩ : ∃ n, n = f.nodes[k] := ⟨_, rfl⟩
      rw [← hn] at hkn
      clear hn
      have hnode0 := hcell k n hkn
      have hnode := hnode0.keep (hb.to_same.mono hB) hbB
      obtain ⟨c0, c1, c2, c3, c4, c5, ⟨A6, n6, c6, hi⟩, hr⟩ := hnode
      have HI6 := Lib.hid hi
      have HKN := Lib.hid hkn
      have HOK := Lib.hid hok
      have HB := Lib.hid hb
      clear hcell hr hi hkn hok hb hnode0
      by_cases hno : FK.NodeOk n
      · have HNO := Lib.hid hno
        obtain ⟨a1, a2, ⟨a3, a4⟩, ⟨a5, a6⟩, ⟨a7, a8⟩, ⟨a9, a10⟩, a11, a12⟩ := hno
        have hal := HI6.out.len
        have hac := HI6.out.cap
        go_wp2_with (go_at_call 26; refine (ref_span_yes _ _ _ (by omega) (by omega)).mono ?_; rintro e w2 ⟨rfl, rfl⟩)
        obtain ⟨wo, rfl⟩ : ∃ wo : World, wo = wr := ⟨_, rfl⟩
        go_loopw [12] (fun t ws => ∃ m : Nat, m ≤ n.after.length ∧ t = .int .i64 m ∧ LastRel f.nodes.length n.after m ∧ Below wo.heap.size wo ws ∧ wo.heap.size < ws.heap.size ∧ ws.cell? ⟨wo.heap.size, 6, none⟩ = some (.slice A6 n.after.length n6)) (fun t _ => n.after.length - (intOf t).toNat)
        case atStart => exact ⟨0, by omega, rfl, .start _ _, (by repeat (first | assumption | exact Below.refl _ _ | refine below_drewN ?_ _ | refine Below.drew ?_ | refine Below.alloc ?_ (by first | omega | (simp; done) | (simp; omega)) _ | refine Below.setCell ?_ (by first | omega | (simp; done) | (simp; omega)) _)), by simp, by go_simp⟩
        case round =>
          obtain ⟨m, hm, rfl, hlr, hb2, hsz2, hc6⟩ := hrel
          have hcf2 : wr.cell? ⟨w.heap.size, 1, none⟩ = some (.slice (some ⟨b, off, none⟩) f.nodes.length c) := by rw [hb2.to_same.cell hsz]; exact hcf
          by_cases hmlt : m < n.after.length
          · obtain ⟨b6, o6, hA6, hb6, hcs⟩ := (HI6.out.keep (hb2.to_same.mono (by omega))).cells (by omega)
            have hget : n.after[m]? = some n.after[m] := by simp [hmlt]
            have hxm := hcs m n.after[m] hget
            have hxr := HI6.out.rng n.after[m] (List.getElem_mem _)
            obtain ⟨x, hx⟩ : ∃ x, x = n.after[m] := ⟨_, rfl⟩
            rw [← hx] at hxm hxr hget
            obtain ⟨prev, hprev⟩ : ∃ prev, 0 < m → n.after[m - 1]? = some prev := by
              by_cases h0 : 0 < m
              · exact ⟨n.after[m - 1], fun _ => by simp⟩
              · exact ⟨0, fun h => absurd h h0⟩
            have hpc : 0 < m → wr.cell? ⟨b6, o6 + (m - 1), none⟩ = some (.int .i64 prev) := fun h => hcs (m - 1) prev (hprev h)
            have hpr : 0 < m → i64 prev := fun h => HI6.out.rng prev (List.mem_of_getElem? (hprev h))
            have HGET := Lib.hid hget
            have HAT := Lib.hid (hlr.at_ hget hprev)
            have HNX := Lib.hid (fun h1 h2 => hlr.next hget hprev h1 h2)
            have HB2 := Lib.hid hb2
            obtain ⟨hr1, hr2⟩ := hxr
            subst hA6
            clear hcs hx hget hprev hlr hb2
            have hmem : x ∈ n.after := List.mem_of_getElem? HGET.out
            by_cases h1 : x < 0
            · have hbad : ¬ FK.EdgesOk f.nodes.length (-1) n.after := fun he => by have := (he.bounds x hmem).1; omega
              have HR := Lib.hid (FK.Checked.edge k n HH.out HOK.out HKN.out HNO.out hbad).chk
              clear hbad hpc hpr hmem
              go_wp2
              go_quiet (fail)
              go_wp2
              go_ret2
              rw [HR.out]
              exact ChkPost.mk (p := (3, (k : Int))) (HB.out.trans (((by repeat (first | exact HB2.out | refine below_drewN ?_ _ | refine Below.drew ?_ | refine Below.alloc ?_ (by first | omega | (simp; done) | (simp; omega)) _ | refine Below.setCell ?_ (by first | omega | (simp; done) | (simp; omega)) _)) : Below wo.heap.size wo _).mono HB.out.size))
            · have hd1 : decide (x < 0) = false := by simp; omega
              by_cases h2 : (f.nodes.length : Int) ≤ x
              · have hd2 : decide ((f.nodes.length : Int) ≤ x) = true := by simp; omega
                have hbad : ¬ FK.EdgesOk f.nodes.length (-1) n.after := fun he => by have := (he.bounds x hmem).2; omega
                have HR := Lib.hid (FK.Checked.edge k n HH.out HOK.out HKN.out HNO.out hbad).chk
                clear hbad hpc hpr hmem
                go_wp2
                go_quiet (fail)
                go_wp2
                go_ret2
                rw [HR.out]
                exact ChkPost.mk (p := (3, (k : Int))) (HB.out.trans (((by repeat (first | exact HB2.out | refine below_drewN ?_ _ | refine Below.drew ?_ | refine Below.alloc ?_ (by first | omega | (simp; done) | (simp; omega)) _ | refine Below.setCell ?_ (by first | omega | (simp; done) | (simp; omega)) _)) : Below wo.heap.size wo _).mono HB.out.size))
              · have hd2 : decide ((f.nodes.length : Int) ≤ x) = false := by simp; omega
                clear hmem
                by_cases hm0 : 0 < m
                · have hd3 : decide (0 < (m : Int)) = true := by simp; omega
                  have hpc1 := hpc hm0
                  have hpr1 := hpr hm0
                  obtain ⟨hpr2, hpr3⟩ := hpr1
                  have hm1 : ((m : Int) - 1).toNat = m - 1 := by omega
                  clear hpc hpr
                  by_cases h3 : x ≤ prev
                  · have hd4 : decide (x ≤ prev) = true := by simp; omega
                    have hbad : ¬ FK.EdgesOk f.nodes.length (-1) n.after := fun he => by have := (HAT.out.1 he).1; rw [if_neg (by omega)] at this; omega
                    have HR := Lib.hid (FK.Checked.edge k n HH.out HOK.out HKN.out HNO.out hbad).chk
                    clear hbad
                    go_wp2
                    go_quiet (fail)
                    go_wp2
                    go_ret2
                    rw [HR.out]
                    exact ChkPost.mk (p := (3, (k : Int))) (HB.out.trans (((by repeat (first | exact HB2.out | refine below_drewN ?_ _ | refine Below.drew ?_ | refine Below.alloc ?_ (by first | omega | (simp; done) | (simp; omega)) _ | refine Below.setCell ?_ (by first | omega | (simp; done) | (simp; omega)) _)) : Below wo.heap.size wo _).mono HB.out.size))
                  · have hd4 : decide (x ≤ prev) = false := by simp; omega
                    have HN1 := Lib.hid (HNX.out (by rw [if_neg (by omega)]; omega) (by omega))
                    go_wp2
                    go_quiet (fail)
                    go_wp2
                    go_roundw
                    case rel => exact ⟨m + 1, by omega, by go_num, HN1.out, (by repeat (first | exact HB2.out | refine below_drewN ?_ _ | refine Below.drew ?_ | refine Below.alloc ?_ (by first | omega | (simp; done) | (simp; omega)) _ | refine Below.setCell ?_ (by first | omega | (simp; done) | (simp; omega)) _)), by simp; omega, by go_simp⟩
                    case measure => simp [intOf]; omega
                · have hd3 : decide (0 < (m : Int)) = false := by simp; omega
                  have HN1 := Lib.hid (HNX.out (by rw [if_pos (by omega)]; omega) (by omega))
                  clear hpc hpr
                  go_wp2
                  go_quiet (fail)
                  go_wp2
                  go_roundw
                  case rel => exact ⟨m + 1, by omega, by go_num, HN1.out, (by repeat (first | exact HB2.out | refine below_drewN ?_ _ | refine Below.drew ?_ | refine Below.alloc ?_ (by first | omega | (simp; done) | (simp; omega)) _ | refine Below.setCell ?_ (by first | omega | (simp; done) | (simp; omega)) _)), by simp; omega, by go_simp⟩
                  case measure => simp [intOf]; omega
          · have hedges := hlr.ended (by omega)
            have hnext : FK.OkTo f (k + 1) := fun j n' hj hn' => by
              rcases Nat.lt_or_ge j k with h | h
              · exact HOK.out j n' h hn'
              · obtain rfl : j = k := by omega
                have := HKN.out
                rw [hn'] at this
                cases this
                exact ⟨HNO.out, hedges⟩
            have HNEXT := Lib.hid hnext
            have HB2 := Lib.hid hb2
            clear hnext hedges hlr hb2
            go_wp2
            go_roundw
            case rel => exact ⟨k + 1, by omega, by go_num, HNEXT.out, HB.out.trans (HB2.out.mono HB.out.size), by omega, hcf2⟩
            case measure => simp [intOf]; omega
      · have HR := Lib.hid (FK.Checked.bound k n HH.out HOK.out HKN.out hno).chk
        have hways := not_nodeOk hno
        clear hno
        rcases hways with h | ⟨h0, h⟩ | ⟨h0, h⟩ | ⟨h0, h2, h⟩ | ⟨h0, h2, h3, h⟩ | ⟨h0, h2, h3, h4, h⟩ | ⟨h0, h2, h3, h4, h5, h⟩
        · go_wp2_with (go_at_call 26; refine (ref_span_any _ _ _).mono ?_; rintro e w2 ⟨rfl, rfl⟩)
          go_ret2
          rw [HR.out]
          exact ChkPost.mk (p := (2, (k : Int))) (by repeat (first | exact HB.out | refine below_drewN ?_ _ | refine Below.drew ?_ | refine Below.alloc ?_ (by first | omega | (simp; done) | (simp; omega)) _ | refine Below.setCell ?_ (by first | omega | (simp; done) | (simp; omega)) _))
        · go_wp2_with (go_at_call 26; refine (ref_span_any _ _ _).mono ?_; rintro e w2 ⟨rfl, rfl⟩)
          go_ret2
          rw [HR.out]
          exact ChkPost.mk (p := (2, (k : Int))) (by repeat (first | exact HB.out | refine below_drewN ?_ _ | refine Below.drew ?_ | refine Below.alloc ?_ (by first | omega | (simp; done) | (simp; omega)) _ | refine Below.setCell ?_ (by first | omega | (simp; done) | (simp; omega)) _))
        · have f0 : spanB n.close 1 = false := spanB_no (by omega)
          go_wp2_with (go_at_call 26; refine (ref_span_any _ _ _).mono ?_; rintro e w2 ⟨rfl, rfl⟩)
          go_ret2
          rw [HR.out]
          exact ChkPost.mk (p := (2, (k : Int))) (by repeat (first | exact HB.out | refine below_drewN ?_ _ | refine Below.drew ?_ | refine Below.alloc ?_ (by first | omega | (simp; done) | (simp; omega)) _ | refine Below.setCell ?_ (by first | omega | (simp; done) | (simp; omega)) _))
        · have f0 : spanB n.close 1 = true := spanB_yes (by omega) (by omega)
          have f1 : spanB n.beat 0 = false := spanB_no (by omega)
          go_wp2_with (go_at_call 26; refine (ref_span_any _ _ _).mono ?_; rintro e w2 ⟨rfl, rfl⟩)
          go_ret2
          rw [HR.out]
          exact ChkPost.mk (p := (2, (k : Int))) (by repeat (first | exact HB.out | refine below_drewN ?_ _ | refine Below.drew ?_ | refine Below.alloc ?_ (by first | omega | (simp; done) | (simp; omega)) _ | refine Below.setCell ?_ (by first | omega | (simp; done) | (simp; omega)) _))
        · have f0 : spanB n.close 1 = true := spanB_yes (by omega) (by omega)
          have f1 : spanB n.beat 0 = true := spanB_yes (by omega) (by omega)
          have f2 : spanB n.base 1 = false := spanB_no (by omega)
          go_wp2_with (go_at_call 26; refine (ref_span_any _ _ _).mono ?_; rintro e w2 ⟨rfl, rfl⟩)
          go_ret2
          rw [HR.out]
          exact ChkPost.mk (p := (2, (k : Int))) (by repeat (first | exact HB.out | refine below_drewN ?_ _ | refine Below.drew ?_ | refine Below.alloc ?_ (by first | omega | (simp; done) | (simp; omega)) _ | refine Below.setCell ?_ (by first | omega | (simp; done) | (simp; omega)) _))
        · have f0 : spanB n.close 1 = true := spanB_yes (by omega) (by omega)
          have f1 : spanB n.beat 0 = true := spanB_yes (by omega) (by omega)
          have f2 : spanB n.base 1 = true := spanB_yes (by omega) (by omega)
          have f3 : spanB n.cap n.base = false := spanB_no (by omega)
          go_wp2_with (go_at_call 26; refine (ref_span_any _ _ _).mono ?_; rintro e w2 ⟨rfl, rfl⟩)
          go_ret2
          rw [HR.out]
          exact ChkPost.mk (p := (2, (k : Int))) (by repeat (first | exact HB.out | refine below_drewN ?_ _ | refine Below.drew ?_ | refine Below.alloc ?_ (by first | omega | (simp; done) | (simp; omega)) _ | refine Below.setCell ?_ (by first | omega | (simp; done) | (simp; omega)) _))
        · have f0 : spanB n.close 1 = true := spanB_yes (by omega) (by omega)
          have f1 : spanB n.beat 0 = true := spanB_yes (by omega) (by omega)
          have f2 : spanB n.base 1 = true := spanB_yes (by omega) (by omega)
          have f3 : spanB n.cap n.base = true := spanB_yes (by omega) (by omega)
          have f4 : spanB n.jitter 0 = false := spanB_no (by omega)
          go_wp2_with (go_at_call 26; refine (ref_span_any _ _ _).mono ?_; rintro e w2 ⟨rfl, rfl⟩)
          go_ret2
          rw [HR.out]
          exact ChkPost.mk (p := (2, (k : Int))) (by repeat (first | exact HB.out | refine below_drewN ?_ _ | refine Below.drew ?_ | refine Below.alloc ?_ (by first | omega | (simp; done) | (simp; omega)) _ | refine Below.setCell ?_ (by first | omega | (simp; done) | (simp; omega)) _))
    · obtain rfl : k = f.nodes.length := by omega
      have HOK := Lib.hid hok
      have HB := Lib.hid hb
      have hv := hok.aft_lt
      have HV := Lib.hid hv
      have hmk := HMK.out
      have hnw := (HN.out.keep (hb.to_same.mono hB))
      have HNW := Lib.hid hnw
      have HCF := Lib.hid hcf
      clear hok hb hv hnw hlt hk
      go_wp2
      clear hmk hcf
      obtain ⟨wo, rfl⟩ : ∃ wo : World, wo = wr := ⟨_, rfl⟩
      go_loopw [14] (fun t ws => ∃ (r : Nat) (g : List Bool), r ≤ f.nodes.length ∧ t = .int .i64 r ∧ FK.Gone f.nodes g ∧ FK.Far f.nodes g r ∧ Blk ws wo.heap.size 4 (boolCells g) ∧ Below wo.heap.size wo ws) (fun t _ => f.nodes.length - (intOf t).toNat)
      case atStart => exact ⟨0, List.replicate f.nodes.length false, by omega, rfl, .start _, .inr (by omega), Blk.made _ _ _, (Below.refl _ _).alloc (Nat.le_refl _) _⟩
      case round =>
        obtain ⟨r, g, hr, rfl, hgone, hfar, hblk, hb2⟩ := hrel
        have hcf2 : wr.cell? ⟨w.heap.size, 1, none⟩ = some (.slice A f.nodes.length c) := by rw [hb2.to_same.cell hsz]; exact HCF.out
        have HBLK := Lib.hid hblk
        have hblt := hblk.lt
        have HB2 := Lib.hid hb2
        have HG := Lib.hid hgone
        have HF := Lib.hid hfar
        clear hblk hb2 hgone hfar
        by_cases hrlt : r < f.nodes.length
        · go_wp2
          clear hcf2
          obtain ⟨w3, rfl⟩ : ∃ w3 : World, w3 = wr := ⟨_, rfl⟩
          go_loopw [15] (fun t ws => ∃ (i : Nat) (g' : List Bool), i ≤ f.nodes.length ∧ t = .int .i64 i ∧ FK.Sweep f.nodes g g' i ∧ Blk ws wo.heap.size 4 (boolCells g') ∧ Below wo.heap.size wo ws) (fun t _ => f.nodes.length - (intOf t).toNat)
          case atStart => exact ⟨0, g, by omega, rfl, .start HG.out, HBLK.out, HB2.out⟩
          case round =>
            obtain ⟨i, g', hi, rfl, hsw, hblk, hb2⟩ := hrel
            have hcf2 : wr.cell? ⟨w.heap.size, 1, none⟩ = some (.slice A f.nodes.length c) := by rw [hb2.to_same.cell hsz]; exact HCF.out
            have HBLK' := Lib.hid hblk
            have hblt' := hblk.lt
            have HB2' := Lib.hid hb2
            have HSW := Lib.hid hsw
            clear hblk hb2 hsw
            by_cases hilt : i < f.nodes.length
            · obtain ⟨b, off, rfl, hbB, hcell⟩ := HNW.out.cells (by omega)
              have hkn : f.nodes[i]? = some f.nodes[i] := by simp [hilt]
              obtain ⟨n, hn⟩ : ∃ n, n = f.nodes[i] := ⟨_, rfl⟩
              rw [← hn] at hkn
              have hnm : n ∈ f.nodes := List.mem_of_getElem? hkn
              clear hn
              have hnode := (hcell i n hkn).keep (HB2'.out.to_same.mono (by omega)) hbB
              obtain ⟨A6, n6, c6, hia⟩ := hnode.c6
              have haft := FK.aft_of hkn
              have hx0 : ∀ x ∈ n.after, 0 ≤ x := fun x hx => by
                have := (HOK.out i n hilt hkn).2.bounds x hx
                omega
              have HI6 := Lib.hid hia
              have HAFT := Lib.hid haft
              have HX0 := Lib.hid hx0
              have hal := hia.len
              have hac := hia.cap
              clear hcell hkn hnode hia haft hx0 hnm
              go_wp2
              go_loop [16, 17] (fun t s => ∃ (m : Nat) (b' : Bool), m ≤ n.after.length ∧ s = .int .i64 m ∧ t = .bool b' ∧ FreeTo f.nodes g' i m b') (fun _ s => n.after.length - (intOf s).toNat)
              case atStart => exact ⟨0, true, by omega, rfl, rfl, .start _ _ _⟩
              case round =>
                obtain ⟨m, b', hm, rfl, rfl, hfree⟩ := hrel
                have HFREE := Lib.hid hfree
                clear hfree
                by_cases hmlt : m < n.after.length
                · obtain ⟨b6, o6, hA6, hb6, hcs⟩ := HI6.out.cells (by omega)
                  have hget : n.after[m]? = some n.after[m] := by simp [hmlt]
                  have hxm := hcs m n.after[m] hget
                  have hx0 := HX0.out n.after[m] (List.getElem_mem _)
                  obtain ⟨xn, hxn⟩ : ∃ xn : Nat, n.after[m] = (xn : Int) := ⟨n.after[m].toNat, by omega⟩
                  have hga : (FK.aft f.nodes i)[m]? = some xn := by rw [HAFT.out, List.getElem?_map, hget, hxn]; simp
                  have hxlt := HV.out i xn (List.mem_of_getElem? hga)
                  have hgl := HSW.out.gone.len
                  obtain ⟨cb, hcb⟩ : ∃ cb, g'[xn]? = some cb := ⟨g'[xn]'(by omega), by simp⟩
                  have hcell : wr.cell? ⟨wo.heap.size, xn, none⟩ = some (.bool cb) := by rw [HBLK'.out.cell]; exact boolCells_at hcb
                  have HNX := Lib.hid (HFREE.out.next hga hcb)
                  rw [hxn] at hxm hx0
                  subst hA6
                  clear hcs hget hxn hga hgl hcb
                  cases b' with
                  | true =>
                    go_wp2
                    go_round
                    case rel => exact ⟨m + 1, cb, by omega, by go_num, rfl, by simpa using HNX.out⟩
                    case measure => simp [intOf]; omega
                  | false =>
                    go_wp2
                    go_round
                    case rel => exact ⟨m + 1, false, by omega, by go_num, rfl, by simpa using HNX.out⟩
                    case measure => simp [intOf]; omega
                · have hgl := HSW.out.gone.len
                  obtain ⟨vb, hvb⟩ : ∃ vb, g'[i]? = some vb := ⟨g'[i]'(by omega), by simp⟩
                  have hcell : wr.cell? ⟨wo.heap.size, i, none⟩ = some (.bool vb) := by rw [HBLK'.out.cell]; exact boolCells_at hvb
                  have hfr : wr.frozen? ⟨wo.heap.size, i, none⟩ = false := HBLK'.out.free i
                  have HNX := Lib.hid (HSW.out.next hilt (HFREE.out.whole (by rw [HAFT.out]; simp; omega)) (HV.out i) (v := vb || b') (by rw [List.getD, hvb]; rfl))
                  have HPUT := Lib.hid (HBLK'.out.put i (.bool (vb || b')))
                  rw [boolCells_set] at HPUT
                  clear hgl hvb
                  cases vb with
                  | true =>
                    go_wp2
                    go_roundw
                    case rel => exact ⟨i + 1, g'.set i true, by omega, by go_num, by simpa using HNX.out, by simpa using HPUT.out, HB2'.out.setCell (Nat.le_refl _) _⟩
                    case measure => simp [intOf]; omega
                  | false =>
                    go_wp2
                    go_roundw
                    case rel => exact ⟨i + 1, g'.set i b', by omega, by go_num, by simpa using HNX.out, by simpa using HPUT.out, HB2'.out.setCell (Nat.le_refl _) _⟩
                    case measure => simp [intOf]; omega
            · obtain rfl : i = f.nodes.length := by omega
              have HFN := Lib.hid (FK.Far.next HV.out HG.out HF.out HSW.out)
              go_wp2
              go_roundw
              case rel => exact ⟨r + 1, g', by omega, by go_num, HSW.out.gone, HFN.out, HBLK'.out, HB2'.out⟩
              case measure => simp [intOf]; omega
        · obtain rfl : r = f.nodes.length := by omega
          have HW := Lib.hid (FK.Far.end_ HG.out HF.out)
          go_wp2
          go_loop [18] (fun t => ∃ j : Nat, j ≤ f.nodes.length ∧ t = .int .i64 j ∧ AcTo f.nodes j) (fun t => f.nodes.length - (intOf t).toNat)
          case atStart => exact ⟨0, by omega, rfl, fun i hi => by omega⟩
          case round =>
            obtain ⟨j, hj, rfl, hac⟩ := hrel
            have HAC := Lib.hid hac
            clear hac
            by_cases hjlt : j < f.nodes.length
            · have hgl := HG.out.len
              have hiff := HG.out.iff HW.out j hjlt
              obtain ⟨vb, hvb⟩ : ∃ vb, g[j]? = some vb := ⟨g[j]'(by omega), by simp⟩
              have hcell : wr.cell? ⟨wo.heap.size, j, none⟩ = some (.bool vb) := by rw [HBLK.out.cell]; exact boolCells_at hvb
              cases vb with
              | true =>
                have hacj := hiff.1 hvb
                have HNX := Lib.hid (show AcTo f.nodes (j + 1) from fun i hi => by
                  rcases Nat.lt_or_ge i j with h | h
                  · exact HAC.out i h
                  · obtain rfl : i = j := by omega
                    exact hacj)
                clear hgl hiff hvb hacj
                go_wp2
                go_round
                case rel => exact ⟨j + 1, by omega, by go_num, HNX.out⟩
                case measure => simp [intOf]; omega
              | false =>
                have hnac : ¬ FK.Ac f.nodes j := fun h => by have := hiff.2 h; rw [hvb] at this; cases this
                have HR := Lib.hid (FK.Checked.cycle j HH.out HOK.out hjlt hnac HAC.out).chk
                clear hgl hiff hvb hnac
                go_wp2
                go_ret2
                rw [HR.out]
                exact ChkPost.mk (p := (4, (j : Int))) (HB.out.trans (HB2.out.mono HB.out.size))
            · obtain rfl : j = f.nodes.length := by omega
              have HR := Lib.hid (FK.Checked.ok HH.out HOK.out HAC.out).chk
              go_wp2
              go_ret2
              rw [HR.out]
              exact ChkPost.mk (p := (0, -1)) (HB.out.trans (HB2.out.mono HB.out.size))

/-- **the document's Check**: the error and the place -/
theorem ref_Check_calls (w : World) (B : Nat) (A : Option Addr) (c : Nat) (f : FK.Flow) (hB : B ≤ w.heap.size) (hN : NodesAt w B A c f.nodes) :
    Calls Tryd.prog 8 #[.agg #[.int .i64 f.deadline, .slice A f.nodes.length c]] w (ChkPost w (FK.chk f)) := by
  by_cases hh : FK.HeadOk f
  · exact ref_check_body w B A c f hB hN hh
  · exact ref_check_head w A c f hh
end Go.Proofs.YtagkobkmaigfcaaDoor
