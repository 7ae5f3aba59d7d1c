/- The walk of plain.turn: what the call made is written into. -/
import Derived.Test.YthojajhbcmkjfaaDoorCopy
namespace Go.Proofs.YthojajhbcmkjfaaDoor
open Go Go.RowKit Go.Deep

theorem Blk.touch {w : World} {g : Nat} {t : TypeId} {cs : Array Value} (h : Blk w g t cs) (a : Addr) (u : Value) : ∃ cs', Blk (w.setCell a u) g t cs' ∧ cs'.size = cs.size := by
  unfold Blk at *
  simp only [World.setCell, Array.getElem?_modify, h]
  by_cases hg : g = a.block
  · simp only [hg, if_true, Option.map_some]
    split
    · exact ⟨_, rfl, rfl⟩
    · exact ⟨_, rfl, by simp⟩
  · have : ¬ a.block = g := fun e => hg e.symm
    simp only [this, if_false]
    exact ⟨_, rfl, rfl⟩

/-- a list of integers that may be written into -/
def IntRow (w : World) (base : Nat) (u : Value) (m : Nat) : Prop := ∃ A c, u = .slice A m c ∧ m ≤ c ∧ c ≤ 9223372036854775807 ∧ (0 < m → ∃ g cs, A = some ⟨g, 0, none⟩ ∧ base ≤ g ∧ Blk w g 3 cs ∧ m ≤ cs.size)

theorem IntRow.touch {w : World} {base : Nat} {u : Value} {m : Nat} (h : IntRow w base u m) (a : Addr) (x : Value) : IntRow (w.setCell a x) base u m := by
  obtain ⟨A, c, rfl, h1, h2, h3⟩ := h
  refine ⟨A, c, rfl, h1, h2, fun hm => ?_⟩
  obtain ⟨g, cs, rfl, hb, hk, hs⟩ := h3 hm
  obtain ⟨cs', hk', hs'⟩ := hk.touch a x
  exact ⟨g, cs', rfl, hb, hk', by omega⟩

theorem OwnInts.intRow {w : World} {base : Nat} {u : Value} {l : List Int} (h : OwnInts w base u l) : IntRow w base u l.length := by
  unfold OwnInts at h
  rcases h.2 with ⟨rfl, h0⟩ | ⟨g, cap, cur, rfl, hb, hg, h1, h2, h3, _⟩
  · exact ⟨none, 0, by rw [h0], by omega, by omega, fun hl => by omega⟩
  · exact ⟨_, cap, rfl, h1, by unfold maxLen at h2; omega, fun _ => ⟨g, cur, rfl, hb, hg, by omega⟩⟩

structure TurnInv (w : World) (base : Nat) (A : Option Addr) (l : List FK.Node) (i : Nat) : Prop where
  ex : 0 < l.length → ∃ g cs, A = some ⟨g, 0, none⟩ ∧ base ≤ g ∧ Blk w g 32 cs ∧ l.length * 7 ≤ cs.size ∧ ∀ (j : Nat) (n : FK.Node), i ≤ j → l[j]? = some n → ∃ u, cs[j * 7 + 6]? = some u ∧ IntRow w base u n.after.length

theorem OwnNodes.turnInv {w : World} {base : Nat} {A : Option Addr} {c : Nat} {l : List FK.Node} {vs : List Value} (h : OwnNodes w base (.slice A l.length c) l vs) : TurnInv w base A l 0 := by
  refine ⟨fun hl => ?_⟩
  have hrow := h.row
  rcases hrow.2 with ⟨he, h0⟩ | ⟨g, cap, cur, he, hb, hg, h1, h2, h3, h4⟩
  · omega
  · injection he with hA _ hc
    subst hA; subst hc
    refine ⟨g, cur, rfl, hb, hg, by rw [h3]; omega, fun j n _ hn => ?_⟩
    obtain ⟨hj, _⟩ := List.getElem?_eq_some_iff.1 hn
    have hu : vs[j]? = some (vs[j]'(by rw [h.len]; exact hj)) := by simp
    refine ⟨_, ?_, (h.ints j n _ hn hu).intRow⟩
    have := nodesV_at l vs j 6 n _ h.len hn hu (by omega)
    rw [← h4, List.getElem?_take] at this
    simp only [nodeCells, List.getElem?_cons_succ, List.getElem?_cons_zero] at this
    split at this
    · simpa using this
    · cases this

theorem TurnInv.put_int {w : World} {base : Nat} {A : Option Addr} {l : List FK.Node} {i : Nat} (h : TurnInv w base A l i) {g6 : Nat} {cs6 : Array Value} (h6 : Blk w g6 3 cs6) (k : Nat) (x : Value) : TurnInv (w.setCell ⟨g6, k, none⟩ x) base A l i := by
  refine ⟨fun hl => ?_⟩
  obtain ⟨g, cs, hA, hb, hg, hs, hall⟩ := h.ex hl
  refine ⟨g, cs, hA, hb, hg.far (p := ⟨g6, k, none⟩) (hg.beside h6 (by decide)) x, hs, fun j n hj hn => ?_⟩
  obtain ⟨u, hu, hr⟩ := hall j n hj hn
  exact ⟨u, hu, hr.touch _ _⟩

theorem TurnInv.put_node {w : World} {base : Nat} {l : List FK.Node} {i g o : Nat} (h : TurnInv w base (some ⟨g, 0, none⟩) l (i + 1)) (ho : o < i * 7 + 7) (x : Value) : TurnInv (w.setCell ⟨g, o, none⟩ x) base (some ⟨g, 0, none⟩) l (i + 1) := by
  refine ⟨fun hl => ?_⟩
  obtain ⟨g', cs, hA', hb, hg, hs, hall⟩ := h.ex hl
  injection hA' with hA'
  injection hA' with hA'
  subst hA'
  refine ⟨g, _, rfl, hb, hg.put _ x, by simpa using hs, fun k n hk hn => ?_⟩
  obtain ⟨u, hu, hr⟩ := hall k n hk hn
  exact ⟨u, by rw [Array.getElem?_setIfInBounds, if_neg (by omega)]; exact hu, hr.touch _ _⟩

theorem TurnInv.mono {w : World} {base : Nat} {A : Option Addr} {l : List FK.Node} {i : Nat} (h : TurnInv w base A l i) : TurnInv w base A l (i + 1) := by
  refine ⟨fun hl => ?_⟩
  obtain ⟨g, cs, hA, hb, hg, hs, hall⟩ := h.ex hl
  exact ⟨g, cs, hA, hb, hg, hs, fun j n hj hn => hall j n (by omega) hn⟩

theorem TurnInv.keep {w w' : World} {base : Nat} {A : Option Addr} {l : List FK.Node} {i : Nat} (h : TurnInv w base A l i) (hs : Same w.heap.size w w') : TurnInv w' base A l i := by
  refine ⟨fun hl => ?_⟩
  obtain ⟨g, cs, hA, hb, hg, hsz, hall⟩ := h.ex hl
  refine ⟨g, cs, hA, hb, hg.same hs hg.lt, hsz, fun j n hj hn => ?_⟩
  obtain ⟨u, hu, A6, c6, rfl, h1, h2, h3⟩ := hall j n hj hn
  refine ⟨_, hu, A6, c6, rfl, h1, h2, fun hm => ?_⟩
  obtain ⟨g6, cs6, hA6, hb6, hk6, hs6⟩ := h3 hm
  exact ⟨g6, cs6, hA6, hb6, hk6.same hs hk6.lt, hs6⟩

set_option maxRecDepth 10000 in
set_option maxHeartbeats 2000000 in
theorem turn_calls (w : World) (base : Nat) (dl : Int) (A : Option Addr) (c : Nat) (l : List FK.Node) (hB : base ≤ w.heap.size) (hT : TurnInv w base A l 0) (hc : l.length ≤ c) (hc2 : c ≤ 9223372036854775807) :
    Calls Tryd.prog 29 #[.agg #[.int .i64 dl, .slice A l.length c]] w fun e w' => e = .returned (.tuple #[]) ∧ Below base w w' := by
  have HT := Lib.hid hT
  clear hT
  go_enter Tryd.func29, Tryd.ntmps29
  go_wp2
  go_loopw [7] (fun t ws => ∃ i : Nat, i ≤ l.length ∧ t = .int .i64 i ∧ TurnInv ws base A l i ∧ Below base w ws ∧ Blk ws w.heap.size 24 #[.int .i64 dl, .slice A l.length c]) (fun t _ => l.length - (intOf t).toNat)
  case atStart => exact ⟨0, by omega, rfl, HT.out.keep fun x hx => Below.heap_alloc _ _ _ hx, (Below.refl _ _).alloc hB _, Blk.made _ _ _⟩
  case round =>
    obtain ⟨i, hi, rfl, hinv, hb, hk⟩ := hrel
    have HINV := Lib.hid hinv
    have HB := Lib.hid hb
    have HK := Lib.hid hk
    have hfc : wr.cell? ⟨w.heap.size, 1, none⟩ = some (.slice A l.length c) := hk.cell 1
    clear hb hk
    by_cases hlt : i < l.length
    · have hkn : l[i]? = some l[i] := by simp [hlt]
      obtain ⟨n, hn⟩ : ∃ n, n = l[i] := ⟨_, rfl⟩
      rw [← hn] at hkn
      clear hn
      obtain ⟨g, cs, rfl, hbg, hg, hs, hall⟩ := hinv.ex (by omega)
      obtain ⟨u, hu, A6, c6, rfl, h1, h2, h3⟩ := hall i n (Nat.le_refl _) hkn
      have hc6 : wr.cell? ⟨g, i * 7 + 6, none⟩ = some (.slice A6 n.after.length c6) := by rw [hg.cell]; exact hu
      have HKN := Lib.hid hkn
      clear hinv hg hs hall hu h3 hkn
      go_wp2
      obtain ⟨wo, rfl⟩ : ∃ wo : World, wo = wr := ⟨_, rfl⟩
      go_loopw [17] (fun t ws => ∃ k : Nat, k ≤ n.after.length ∧ t = .int .i64 k ∧ TurnInv ws base (some ⟨g, 0, none⟩) l i ∧ Below base w ws ∧ Blk ws w.heap.size 24 #[.int .i64 dl, .slice (some ⟨g, 0, none⟩) l.length c] ∧ ws.cell? ⟨g, i * 7 + 6, none⟩ = some (.slice A6 n.after.length c6)) (fun t _ => n.after.length - (intOf t).toNat)
      case atStart => exact ⟨0, by omega, rfl, HINV.out, HB.out, HK.out, hc6⟩
      case round =>
        obtain ⟨k, hk, rfl, hinv, hb, hkb, hc6b⟩ := hrel
        have hfc2 : wr.cell? ⟨w.heap.size, 1, none⟩ = some (.slice (some ⟨g, 0, none⟩) l.length c) := hkb.cell 1
        have HB2 := Lib.hid hb
        have HK2 := Lib.hid hkb
        have HINV2 := Lib.hid hinv
        obtain ⟨g', cs, hgg, _, hg, hs, hall⟩ := hinv.ex (by omega)
        injection hgg with hgg
        injection hgg with hgg
        subst hgg
        have HG := Lib.hid hg
        by_cases hklt : k < n.after.length
        · obtain ⟨u, hu, A6', c6', he, h1', h2', h3'⟩ := hall i n (Nat.le_refl _) HKN.out
          have hux : u = .slice A6 n.after.length c6 := by
            have := hg.cell (i * 7 + 6)
            rw [hc6b, hu] at this
            exact (Option.some.inj this).symm
          rw [hux] at he
          injection he with hA hl6 hcc
          subst hA; subst hcc
          obtain ⟨g6, cs6, rfl, hb6, hk6, hs6⟩ := h3' (by omega)
          have HK6 := Lib.hid hk6
          obtain ⟨x6, hx6⟩ : ∃ x, cs6[k]? = some x := ⟨cs6[k]'(by omega), by simp⟩
          have hcx : wr.cell? ⟨g6, k, none⟩ = some x6 := by rw [hk6.cell]; exact hx6
          have hfx : wr.frozen? ⟨g6, k, none⟩ = false := hk6.free k
          have HNE : Hid (g ≠ g6) := hg.beside hk6 (by decide)
          have HNE2 : Hid (w.heap.size ≠ g6) := hkb.beside hk6 (by decide)
          clear hinv hb hkb hg hs hall hu h3' hk6 hx6 hux
          go_wp2
          go_roundw
          case rel => exact ⟨k + 1, by omega, by go_num, HINV2.out.put_int HK6.out _ _, HB2.out.setCell hb6 _, HK2.out.far (p := ⟨g6, k, none⟩) HNE2.out _, by rw [World.cell?_setCell_other _ _ _ _ (fun e => HNE.out (by injection e with e1; exact e1.symm))]; exact hc6b⟩
          case measure => simp [intOf]; omega
        · have HNE3 : Hid (w.heap.size ≠ g) := hkb.beside hg (by decide)
          obtain ⟨y0, hy0⟩ : ∃ y, cs[i * 7 + 0]? = some y := ⟨cs[i * 7 + 0]'(by omega), by simp⟩
          have hcy0 : wr.cell? ⟨g, i * 7, none⟩ = some y0 := by rw [hg.cell]; exact hy0
          have hfy0 : wr.frozen? ⟨g, i * 7, none⟩ = false := hg.free _
          obtain ⟨y1, hy1⟩ : ∃ y, cs[i * 7 + 1]? = some y := ⟨cs[i * 7 + 1]'(by omega), by simp⟩
          have hcy1 : wr.cell? ⟨g, i * 7 + 1, none⟩ = some y1 := by rw [hg.cell]; exact hy1
          have hfy1 : wr.frozen? ⟨g, i * 7 + 1, none⟩ = false := hg.free _
          obtain ⟨y2, hy2⟩ : ∃ y, cs[i * 7 + 2]? = some y := ⟨cs[i * 7 + 2]'(by omega), by simp⟩
          have hcy2 : wr.cell? ⟨g, i * 7 + 2, none⟩ = some y2 := by rw [hg.cell]; exact hy2
          have hfy2 : wr.frozen? ⟨g, i * 7 + 2, none⟩ = false := hg.free _
          obtain ⟨y3, hy3⟩ : ∃ y, cs[i * 7 + 3]? = some y := ⟨cs[i * 7 + 3]'(by omega), by simp⟩
          have hcy3 : wr.cell? ⟨g, i * 7 + 3, none⟩ = some y3 := by rw [hg.cell]; exact hy3
          have hfy3 : wr.frozen? ⟨g, i * 7 + 3, none⟩ = false := hg.free _
          obtain ⟨y4, hy4⟩ : ∃ y, cs[i * 7 + 4]? = some y := ⟨cs[i * 7 + 4]'(by omega), by simp⟩
          have hcy4 : wr.cell? ⟨g, i * 7 + 4, none⟩ = some y4 := by rw [hg.cell]; exact hy4
          have hfy4 : wr.frozen? ⟨g, i * 7 + 4, none⟩ = false := hg.free _
          obtain ⟨y5, hy5⟩ : ∃ y, cs[i * 7 + 5]? = some y := ⟨cs[i * 7 + 5]'(by omega), by simp⟩
          have hcy5 : wr.cell? ⟨g, i * 7 + 5, none⟩ = some y5 := by rw [hg.cell]; exact hy5
          have hfy5 : wr.frozen? ⟨g, i * 7 + 5, none⟩ = false := hg.free _
          have hfy6 : wr.frozen? ⟨g, i * 7 + 6, none⟩ = false := hg.free _
          clear hinv hb hkb hall hg hs hy0 hy1 hy2 hy3 hy4 hy5
          go_wp2
          go_roundw
          case rel => exact ⟨i + 1, by omega, by go_num, (by (repeat (with_reducible refine TurnInv.put_node ?_ (by omega) _)); exact HINV2.out.mono), (by (repeat (first | with_reducible refine below_drewN ?_ _ | with_reducible refine Below.drew ?_ | with_reducible refine Below.alloc ?_ (by first | omega | (simp; done) | (simp; omega)) _ | with_reducible refine Below.setCell ?_ (by first | omega | (simp; done) | (simp; omega)) _)); exact HB2.out), (by (repeat (with_reducible refine Blk.far ?_ HNE3.out _)); exact HK2.out)⟩
          case measure => simp [intOf]; omega
    · have HB := HB.out
      clear hinv
      go_wp2
      go_end0
      exact ⟨rfl, HB⟩
end Go.Proofs.YthojajhbcmkjfaaDoor
