/- The walk of flow.Check, its body. -/
import Derived.Test.YtagkobkmaigfcaaDoorCheck
namespace Go.Proofs.YtagkobkmaigfcaaDoor
open Go Go.RowKit Go.Deep

theorem Tab.lt {w : World} (h : Tab w) : 1 < w.heap.size := by
  have h0 := h 0 (by decide)
  rcases Nat.lt_or_ge 1 w.heap.size with hlt | hge
  · exact hlt
  · unfold World.cell? at h0
    simp [Array.getElem?_eq_none hge] at h0

theorem Tab.below {w w' : World} (h : Tab w) (hb : Below w.heap.size w w') : Tab w' := h.keep hb.to_same h.lt

theorem edges_drop {len m : Nat} {p : Int} {l : List Int} (hm : m < l.length) : FK.EdgesOk len p (l.drop m) ↔ (p < l[m] ∧ l[m] < len ∧ FK.EdgesOk len l[m] (l.drop (m + 1))) := by
  rw [List.drop_eq_getElem_cons hm]; rfl

def EdgeRel (len : Nat) (l : List Int) (m : Nat) (last : Int) : Prop := FK.EdgesOk len (-1) l ↔ FK.EdgesOk len last (l.drop m)

set_option maxRecDepth 100000 in
set_option maxHeartbeats 4000000 in
theorem check_body (w : World) (B : Nat) (A : Option Addr) (c : Nat) (f : FK.Flow) (hB : B ≤ w.heap.size) (hN : NodesAt w B A c f.nodes) (hT : Tab w)
    (hh : FK.HeadOk f) : Calls Tryd.prog 49 #[.agg #[.int .i64 f.deadline, .slice A f.nodes.length c]] w (CheckPost w (FK.chk f)) := by
  have hhead := hh
  obtain ⟨⟨d1, d2⟩, l1, l2⟩ := hhead
  have HN := Lib.hid hN
  have HT := Lib.hid hT
  have HH := Lib.hid hh
  have g1 := hN.len
  have g2 := hN.cap
  clear hT hh hN
  have hz : ((f.nodes.length : Int) == 0) = false := by rw [beq_eq_false_iff_ne]; omega
  have hent : ∀ (args : Array Value) (W : World), (callFunc 72 args).run Tryd.prog W = .ok (.enter 72 args) W := fun args W => by kernel_rfl
  have HENT := Lib.hid hent
  clear hent
  go_enter Tryd.func49, Tryd.ntmps49
  go_wp2_with (go_at_call 70; refine (span_yes _ _ _ (by omega) (by omega)).mono ?_; rintro e w2 ⟨rfl, rfl⟩)
  go_loopw [33] (fun i wr => ∃ k : Nat, k ≤ f.nodes.length ∧ i = .int .i64 k ∧ FK.OkTo f k ∧ Below w.heap.size w wr ∧ w.heap.size < wr.heap.size ∧ wr.cell? ⟨w.heap.size, 1, none⟩ = some (.slice A f.nodes.length c)) (fun i _ => f.nodes.length - (intOf i).toNat)
  case atStart => exact ⟨0, by omega, rfl, fun j n hj => by omega, (by repeat (first | assumption | exact Below.refl _ _ | refine below_drewN ?_ _ | refine Below.drew ?_ | refine Below.alloc ?_ (by first | omega | (simp; done) | (simp; omega)) _ | refine Below.setCell ?_ (by first | omega | (simp; done) | (simp; omega)) _)), by simp, by go_simp⟩
  case round =>
    obtain ⟨k, hk, rfl, hok, hb, hsz, hcf⟩ := hrel
    by_cases hlt : k < f.nodes.length
    · obtain ⟨b, off, rfl, hbB, hcell⟩ := HN.out.cells (by omega)
      have hkn : f.nodes[k]? = some f.nodes[k] := by simp [hlt]
      obtain ⟨n, hn⟩ : ∃ n, n = f.nodes[k] := ⟨_, rfl⟩
      rw [← hn] at hkn
      clear hn
      have hnode := (hcell k n hkn).keep (hb.to_same.mono hB) hbB
      obtain ⟨c0, c1, c2, c3, c4, c5, ⟨A6, n6, c6, hi⟩, hr⟩ := hnode
      have HI6 := Lib.hid hi
      have HKN := Lib.hid hkn
      have HOK := Lib.hid hok
      have HB := Lib.hid hb
      clear hcell hr hi hkn hok hb
      by_cases hno : FK.NodeOk n
      · have HNO := Lib.hid hno
        obtain ⟨a1, a2, ⟨a3, a4⟩, ⟨a5, a6⟩, ⟨a7, a8⟩, ⟨a9, a10⟩, a11, a12⟩ := hno
        have hal := HI6.out.len
        have hac := HI6.out.cap
        go_wp2_with (go_at_call 70; refine (span_yes _ _ _ (by omega) (by omega)).mono ?_; rintro e w2 ⟨rfl, rfl⟩)
        go_loop [7, 89] (fun s t => ∃ (m : Nat) (last : Int), m ≤ n.after.length ∧ t = .int .i64 m ∧ s = .int .i64 last ∧ -1 ≤ last ∧ last < f.nodes.length ∧ EdgeRel f.nodes.length n.after m last) (fun _ t => n.after.length - (intOf t).toNat)
        case atStart => exact ⟨0, -1, by omega, rfl, rfl, by omega, by omega, by simp [EdgeRel]⟩
        case round =>
          obtain ⟨m, last, hm, rfl, rfl, hl0, hl1, her⟩ := hrel
          have HER := Lib.hid her
          clear her
          by_cases hmlt : m < n.after.length
          · obtain ⟨b6, o6, hA6, hb6, hc6⟩ := HI6.out.cells (by omega)
            have hxm := hc6 m n.after[m] (by simp [hmlt])
            have hxr := HI6.out.rng n.after[m] (List.getElem_mem _)
            obtain ⟨x, hx⟩ : ∃ x, x = n.after[m] := ⟨_, rfl⟩
            rw [← hx] at hxm hxr
            have HD := Lib.hid (edges_drop (len := f.nodes.length) (p := last) hmlt)
            rw [← hx] at HD
            obtain ⟨hr1, hr2⟩ := hxr
            have hb6lt : b6 < wr.heap.size := by omega
            subst hA6
            clear hc6 hx
            by_cases h1 : x ≤ last
            · have hbad : ¬ FK.EdgesOk f.nodes.length (-1) n.after := fun he => by have := (HD.out.1 (HER.out.1 he)).1; omega
              have HR := Lib.hid (FK.Checked.edge k n HH.out HOK.out HKN.out HNO.out hbad).chk
              clear hbad
              go_wp2_with (go_at_call 69; refine (fault_calls _ _ _).mono ?_; rintro e w2 ⟨rfl, rfl⟩)
              go_ret
              rw [HR.out]
              refine CheckPost.fault (w := w) (p := (3, (k : Int))) (by simp) ?_ (by simp)
              exact (by repeat (first | exact HB.out | refine below_drewN ?_ _ | refine Below.drew ?_ | refine Below.alloc ?_ (by first | omega | (simp; done) | (simp; omega)) _ | refine Below.setCell ?_ (by first | omega | (simp; done) | (simp; omega)) _))
            · by_cases h2 : (f.nodes.length : Int) ≤ x
              · have hbad : ¬ FK.EdgesOk f.nodes.length (-1) n.after := fun he => by have := (HD.out.1 (HER.out.1 he)).2.1; omega
                have HR := Lib.hid (FK.Checked.edge k n HH.out HOK.out HKN.out HNO.out hbad).chk
                clear hbad
                go_wp2_with (go_at_call 69; refine (fault_calls _ _ _).mono ?_; rintro e w2 ⟨rfl, rfl⟩)
                go_ret
                rw [HR.out]
                refine CheckPost.fault (w := w) (p := (3, (k : Int))) (by simp) ?_ (by simp)
                exact (by repeat (first | exact HB.out | refine below_drewN ?_ _ | refine Below.drew ?_ | refine Below.alloc ?_ (by first | omega | (simp; done) | (simp; omega)) _ | refine Below.setCell ?_ (by first | omega | (simp; done) | (simp; omega)) _))
              · go_wp2
                go_round
                case rel => exact ⟨m + 1, x, by omega, by go_num, rfl, by omega, by omega, HER.out.trans (HD.out.trans ⟨fun h => h.2.2, fun h => ⟨by omega, by omega, h⟩⟩)⟩
                case measure => simp [intOf]; omega
          · have hedges : FK.EdgesOk f.nodes.length (-1) n.after := HER.out.2 (by rw [List.drop_of_length_le (by omega)]; trivial)
            have hnext : FK.OkTo f (k + 1) := fun j n' hj hn' => by
              rcases Nat.lt_or_ge j k with h | h
              · exact HOK.out j n' h hn'
              · obtain rfl : j = k := by omega
                have := HKN.out
                rw [hn'] at this
                cases this
                exact ⟨HNO.out, hedges⟩
            have HNEXT := Lib.hid hnext
            clear hnext hedges
            go_wp2
            go_roundw
            case rel => exact ⟨k + 1, by omega, by go_num, HNEXT.out, (by repeat (first | exact HB.out | refine below_drewN ?_ _ | refine Below.drew ?_ | refine Below.alloc ?_ (by first | omega | (simp; done) | (simp; omega)) _ | refine Below.setCell ?_ (by first | omega | (simp; done) | (simp; omega)) _)), by simp; omega, by go_simp⟩
            case measure => simp [intOf]; omega
      · have HR := Lib.hid (FK.Checked.bound k n HH.out HOK.out HKN.out hno).chk
        have hways := not_nodeOk hno
        clear hno
        rcases hways with h | ⟨h0, h⟩ | ⟨h0, h⟩ | ⟨h0, h2, h⟩ | ⟨h0, h2, h3, h⟩ | ⟨h0, h2, h3, h4, h⟩ | ⟨h0, h2, h3, h4, h5, h⟩
        all_goals
          go_wp2_with (first
            | (go_at_call 70; refine (span_yes _ _ _ (by omega) (by omega)).mono ?_; rintro e w2 ⟨rfl, rfl⟩)
            | (go_at_call 70; refine (span_no _ _ _ (by omega)).mono ?_; rintro e w2 ⟨rfl, rfl⟩)
            | (go_at_call 69; refine (fault_calls _ _ _).mono ?_; rintro e w2 ⟨rfl, rfl⟩))
          go_ret
          rw [HR.out]
          refine CheckPost.fault (w := w) (p := (2, (k : Int))) (by simp) ?_ (by simp)
          exact (by repeat (first | exact HB.out | refine below_drewN ?_ _ | refine Below.drew ?_ | refine Below.alloc ?_ (by first | omega | (simp; done) | (simp; omega)) _ | refine Below.setCell ?_ (by first | omega | (simp; done) | (simp; omega)) _))
    · obtain rfl : k = f.nodes.length := by omega
      have HOK := Lib.hid hok
      have HB := Lib.hid hb
      have hgt := HT.out.lt
      have hv := hok.aft_lt
      have hpos : ∀ n ∈ f.nodes, ∀ x ∈ n.after, 0 ≤ x := fun n hn x hx => by
        obtain ⟨i, hi, rfl⟩ := List.mem_iff_getElem.1 hn
        have := (hok i f.nodes[i] hi (by simp [hi])).2.bounds x hx
        omega
      have HORD := Lib.hid (flow_Order_calls wr B A c f.nodes 72 #[] (fun W _ => Below wr.heap.size wr W) (by omega) l2 hv hpos HENT.out (Below.refl _ _)
        (fun W T h => ⟨(HN.out.keep (hb.to_same.mono hB)).keep (h.to_same.mono (by omega)), (HT.out.below hb).below h, h.size⟩)
        (fun W W' T h h' => h.trans h')
        (fun W T k h _ _ _ => (noop_calls k W).mono fun e W' ⟨he, hw⟩ => by subst hw; exact ⟨he, h, Nat.le_refl _, fun _ _ _ => rfl⟩))
      clear hok hb hv hpos
      go_wp2_with (fail)
      refine HORD.out.mono ?_
      rintro e w2 ⟨left, T, rfl, hi2, ho2, hst2⟩
      have hstuck := ho2.stuck (HOK.out.aft_lt) hst2
      have hl4 := ordering_lt ho2 l2
      have HB2 := Lib.hid (HB.out.trans (hi2.mono HB.out.size))
      have HT2 := Lib.hid ((HT.out.below HB.out).below hi2)
      clear hi2 ho2 hst2
      by_cases hl0 : left = 0
      · have HR := Lib.hid (FK.Checked.ok HH.out HOK.out fun i hi => Classical.byContradiction fun hn => by
          have := (hstuck i).2 ⟨hi, hn⟩
          rw [hl0] at this; simp at this).chk
        have hne : ((left : Int) != 0) = false := by rw [hl0]; rfl
        clear hstuck hl0
        go_wp2
        go_ret
        rw [HR.out]
        exact ⟨_, rfl, .inl ⟨rfl, rfl⟩, HB2.out⟩
      · obtain ⟨t1, t2, t3⟩ := ctz_low left (by omega) hl0
        have HTZ := Lib.hid (tz_calls left (by omega) hl0 w2 HT2.out)
        have hne : ((left : Int) != 0) = true := by rw [bne_iff_ne]; omega
        generalize Lib.ctz 64 left = t at HTZ t1 t2 t3
        have ht := (hstuck t).1 t1
        have HR := Lib.hid (FK.Checked.cycle t HH.out HOK.out ht.1 ht.2 fun j hj => Classical.byContradiction fun hn => by
          have := (hstuck j).2 ⟨by omega, hn⟩
          rw [t2 j hj] at this; cases this).chk
        clear hstuck hl0 t1 t2 ht
        go_wp2_with (first
          | (go_at_call 73; refine HTZ.out.mono ?_; rintro e w3 ⟨rfl, rfl⟩)
          | (go_at_call 69; refine (fault_calls _ _ _).mono ?_; rintro e w3 ⟨rfl, rfl⟩))
        go_ret
        rw [HR.out]
        refine CheckPost.fault (w := w) (p := (4, (t : Int))) (by simp) ?_ (by simp)
        exact (by repeat (first | exact HB2.out | refine below_drewN ?_ _ | refine Below.drew ?_ | refine Below.alloc ?_ (by first | omega | (simp; done) | (simp; omega)) _ | refine Below.setCell ?_ (by first | omega | (simp; done) | (simp; omega)) _))

/-- **flow.Check**: the error and the place, or nil -/
theorem flow_Check_calls (w : World) (B : Nat) (A : Option Addr) (c : Nat) (f : FK.Flow) (hB : B ≤ w.heap.size) (hN : NodesAt w B A c f.nodes) (hT : Tab w) :
    Calls Tryd.prog 49 #[.agg #[.int .i64 f.deadline, .slice A f.nodes.length c]] w (CheckPost w (FK.chk f)) := by
  by_cases hh : FK.HeadOk f
  · exact check_body w B A c f hB hN hT hh
  · exact check_head w A c f hh
end Go.Proofs.YtagkobkmaigfcaaDoor
