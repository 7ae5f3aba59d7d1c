/- Arguments that come in, opened: lists of integers, flows; and what the row of a law that answers true asks behind the call. -/
import Derived.Test.YtagkobkmaigfcaaDoorCopy
import Derived.Deep.Slices
import Derived.Lib.SmallJoins
import Derived.ProofKit
import Derived.OpenShut
namespace Go.Proofs.YtagkobkmaigfcaaDoor
open Go Go.RowKit Go.Deep Go.ChangeShapes Go.WideShapes

theorem addr_of_cell {w : World} {a : Addr} {v : Value} (h : w.cell? a = some v) : ∃ b off, a = ⟨b, off, none⟩ ∧ b < w.heap.size := by
  obtain ⟨b, off, spot⟩ := a
  unfold World.cell? at h
  split at h
  · rename_i c _ _ hc
    cases spot with
    | none => exact ⟨b, off, rfl, (Array.getElem?_eq_some_iff.1 hc).1⟩
    | some s => simp at h
  · cases h

theorem add_plain (b off n : Nat) : (⟨b, off, none⟩ : Addr).add n = ⟨b, off + n, none⟩ := by
  unfold Addr.add; split <;> simp_all

theorem i64_of_wf {n : Int} (h : (Lit.int .i64 n).wf = true) : i64 n := by
  have := bounds_i64 h
  exact ⟨this.1, by omega⟩

theorem cellsInt : Tryd.prog.cellsOf 3 = 1 := by kernel_rfl
theorem cellsNode : Tryd.prog.cellsOf 32 = 7 := by kernel_rfl
theorem bytesInt : Tryd.prog.bytesOf 3 = 8 := by kernel_rfl
theorem bytesNode : Tryd.prog.bytesOf 32 = 72 := by kernel_rfl

section
variable {H : Type} {enc : TypeId × Value → H} {w : World}

/-- a slice of integers that came in -/
theorem open_intsAt {fuel : Nat} {v : Value} {y : DataW H × List MemPlace} (h : DataW.trod enc Tryd.prog w 0 (fun _ => true) true fuel 30 [v] = some y) :
    ∃ A c l, v = .slice A l.length c ∧ IntsAt w w.heap.size A c l ∧ (∀ R, (y.1.weights Tryd.prog 30).all (· ≤ R) = true → l.length * 8 ≤ R) := by
  rcases open_ints Tryd.underlying30 Tryd.underlying3 cellsInt h with ⟨hcs, hx⟩ | ⟨a, len, cap, zs, hcs, _, hl, hm, hz, hx, hcell, hwz⟩
  · simp at hcs; subst hcs
    exact ⟨none, 0, [], rfl, ⟨by simp, by simp, by simp, by simp⟩, fun R _ => by simp⟩
  · simp at hcs; subst hcs
    simp only [if_true] at hz
    have hlen : (zs.take len).length = len := by simp; omega
    refine ⟨some a, cap, zs.take len, by rw [hlen], ⟨fun x hx' => i64_of_wf (hwz x (List.mem_of_mem_take hx')), by omega, by unfold maxLen at hm; omega, fun h0 => ?_⟩, fun R hR => ?_⟩
    · obtain ⟨b, off, rfl, hb⟩ := addr_of_cell (hcell 0 (by omega))
      refine ⟨b, off, rfl, hb, fun i x hi => ?_⟩
      obtain ⟨hi1, hi2⟩ := List.getElem?_eq_some_iff.1 hi
      have := hcell i (by omega)
      rw [add_plain] at this
      rw [this]
      rw [List.getElem?_take] at hi
      split at hi
      · simp [List.getD, hi]
      · cases hi
    · rw [hx] at hR
      simp only [DataW.weights, Tryd.underlying30] at hR
      simp only [List.all_cons, Bool.and_eq_true, decide_eq_true_eq] at hR
      have h1 := hR.1
      rw [bytesInt] at h1
      have e1 : (lits (H := H) IntKind.i64 (zs.take len)).length = len := by simp [lits]; omega
      rw [e1] at h1
      rw [hlen]
      have := Nat.le_add_right len (lits (H := H) IntKind.i64 (zs.drop len)).length
      have := Nat.mul_le_mul_right 8 this
      omega

theorem list7 {α : Type} {l : List α} (h : l.length = 7) : ∃ a b c d e f g, l = [a, b, c, d, e, f, g] := by
  match l, h with
  | [a, b, c, d, e, f, g], _ => exact ⟨a, b, c, d, e, f, g, rfl⟩

theorem cellsInts : Tryd.prog.cellsOf 30 = 1 := by kernel_rfl

theorem open_node {fuel : Nat} {cs : List Value} {y : DataW H × List MemPlace} {b off : Nat} (h : DataW.trod enc Tryd.prog w 0 (fun _ => true) true fuel 32 cs = some y) (hc : ∀ j, j < 7 → w.cell? ⟨b, off + j, none⟩ = cs[j]?) :
    ∃ n : FK.Node, NodeAt w w.heap.size b off n ∧ (∀ R, (y.1.weights Tryd.prog 32).all (· ≤ R) = true → n.after.length * 8 ≤ R) := by
  obtain ⟨xs, n, _, hy, hlen, hxl, hg⟩ := DataW.trod_struct Tryd.underlying32 h
  obtain ⟨v0, v1, v2, v3, v4, v5, v6, rfl⟩ := list7 (hlen.trans cellsNode)
  obtain ⟨y0, y1, y2, y3, y4, y5, y6, rfl⟩ := list7 (l := xs) hxl
  have g0 : DataW.trod enc Tryd.prog w 0 (fun _ => true) true n 3 [v0] = some y0 := by have := hg 0 _ rfl; simpa [cellsInt] using this
  have g1 : DataW.trod enc Tryd.prog w 0 (fun _ => true) true n 3 [v1] = some y1 := by have := hg 1 _ rfl; simpa [cellsInt] using this
  have g2 : DataW.trod enc Tryd.prog w 0 (fun _ => true) true n 3 [v2] = some y2 := by have := hg 2 _ rfl; simpa [cellsInt] using this
  have g3 : DataW.trod enc Tryd.prog w 0 (fun _ => true) true n 3 [v3] = some y3 := by have := hg 3 _ rfl; simpa [cellsInt] using this
  have g4 : DataW.trod enc Tryd.prog w 0 (fun _ => true) true n 3 [v4] = some y4 := by have := hg 4 _ rfl; simpa [cellsInt] using this
  have g5 : DataW.trod enc Tryd.prog w 0 (fun _ => true) true n 3 [v5] = some y5 := by have := hg 5 _ rfl; simpa [cellsInt] using this
  have g6 : DataW.trod enc Tryd.prog w 0 (fun _ => true) true n 30 [v6] = some y6 := by have := hg 6 _ rfl; simpa [cellsInts] using this
  obtain ⟨a0, e0, _, w0⟩ := DataW.trod_int Tryd.underlying3 g0
  obtain ⟨a1, e1, _, w1⟩ := DataW.trod_int Tryd.underlying3 g1
  obtain ⟨a2, e2, _, w2⟩ := DataW.trod_int Tryd.underlying3 g2
  obtain ⟨a3, e3, _, w3⟩ := DataW.trod_int Tryd.underlying3 g3
  obtain ⟨a4, e4, _, w4⟩ := DataW.trod_int Tryd.underlying3 g4
  obtain ⟨a5, e5, _, w5⟩ := DataW.trod_int Tryd.underlying3 g5
  simp only [List.cons.injEq, and_true] at e0 e1 e2 e3 e4 e5
  subst e0 e1 e2 e3 e4 e5
  obtain ⟨A, c, l, rfl, hi, hw⟩ := open_intsAt g6
  refine ⟨⟨a0, a1, a2, a3, a4, a5, l⟩, ⟨hc 0 (by omega), hc 1 (by omega), hc 2 (by omega), hc 3 (by omega), hc 4 (by omega), hc 5 (by omega), ⟨A, c, hc 6 (by omega), hi⟩, i64_of_wf w0, i64_of_wf w1, i64_of_wf w2, i64_of_wf w3, i64_of_wf w4, i64_of_wf w5⟩, fun R hR => ?_⟩
  apply hw R
  rw [hy] at hR
  simp only [DataW.weights, Tryd.underlying32, List.map_cons, List.map_nil, DataW.weightsEach, List.all_append, Bool.and_eq_true] at hR
  exact hR.2.2.2.2.2.2.1

theorem underNodes : Tryd.prog.underlying 22 = some (.slice 32) := Tryd.underlying22

theorem weightsAll_at {P : Program} {e : TypeId} {R : Nat} : ∀ {l : List (DataW H)} {i : Nat} {d : DataW H}, (DataW.weightsAll P e l).all (· ≤ R) = true → l[i]? = some d → (d.weights P e).all (· ≤ R) = true
  | [], _, _, _, h => by simp at h
  | a :: l, 0, d, h, hd => by
    simp at hd; subst hd
    simp only [DataW.weightsAll, List.all_append, Bool.and_eq_true] at h
    exact h.1
  | a :: l, i + 1, d, h, hd => by
    simp only [DataW.weightsAll, List.all_append, Bool.and_eq_true] at h
    exact weightsAll_at h.2 (by simpa using hd)

instance : Inhabited FK.Node := ⟨⟨0, 0, 0, 0, 0, 0, []⟩⟩

/-- a slice of nodes that came in -/
theorem open_nodesAt {fuel : Nat} {v : Value} {y : DataW H × List MemPlace} (h : DataW.trod enc Tryd.prog w 0 (fun _ => true) true fuel 22 [v] = some y) :
    ∃ A c l, v = .slice A l.length c ∧ NodesAt w w.heap.size A c l ∧ ((y.1.weights Tryd.prog 22).all (· ≤ reachBytes) = true → FlowFits l) := by
  rcases open_slice underNodes h with ⟨hcs, hx⟩ | ⟨a, len, cap, m, n, D, Pl, hcs, _, hl, hm, hmm, hx, hi⟩
  · simp at hcs; subst hcs
    exact ⟨none, 0, [], rfl, ⟨by simp, by simp, by simp⟩, fun _ => ⟨by simp, by simp⟩⟩
  · simp at hcs; subst hcs
    simp only [if_true] at hmm
    subst hmm
    rw [cellsNode] at hi
    have hnode : ∀ i, i < len → ∃ n : FK.Node, (∃ b off, a = ⟨b, off, none⟩ ∧ b < w.heap.size ∧ NodeAt w w.heap.size b (off + i * 7) n) ∧ (∀ R, ((D i).weights Tryd.prog 32).all (· ≤ R) = true → n.after.length * 8 ≤ R) := by
      intro i hil
      obtain ⟨cs', h1, h2⟩ := hi i (by omega)
      obtain ⟨_, hl7, hat⟩ := World.cells?_some h1
      have h0 := hat 0 (by omega)
      have hv : cs'[0]? = some (cs'[0]'(by omega)) := List.getElem?_eq_getElem _
      rw [hv, add_add] at h0
      obtain ⟨b', off', hab, hb'⟩ := addr_of_cell h0
      have hspot : ∃ b off, a = ⟨b, off, none⟩ := by
        obtain ⟨cs0, h10, _⟩ := hi 0 (by omega)
        obtain ⟨_, hl', hat'⟩ := World.cells?_some h10
        have h00 := hat' 0 (by omega)
        rw [add_add] at h00
        have e : a.add (0 * 7 + 0) = a := by simp [Addr.add]
        rw [e, List.getElem?_eq_getElem (by omega)] at h00
        obtain ⟨b, off, e, _⟩ := addr_of_cell h00
        exact ⟨b, off, e⟩
      obtain ⟨b, off, rfl⟩ := hspot
      have hbb : b < w.heap.size := by
        rw [add_plain] at hab
        injection hab with e1 _ _
        omega
      obtain ⟨nd, hnd, hw⟩ := open_node (b := b) (off := off + i * 7) h2 (fun j hj => by
        have := hat j hj
        rw [add_add, add_plain] at this
        rw [Nat.add_assoc]; exact this)
      exact ⟨nd, ⟨b, off, rfl, hbb, hnd⟩, hw⟩
    obtain ⟨V, hV⟩ := choose_lt hnode
    have hlen : ((List.range len).map V).length = len := by simp
    have hget : ∀ i n, ((List.range len).map V)[i]? = some n → i < len ∧ n = V i := fun i n hn => by
      obtain ⟨h1, h2⟩ := List.getElem?_eq_some_iff.1 hn
      simp at h1 h2
      exact ⟨h1, h2.symm⟩
    refine ⟨some a, m, (List.range len).map V, by rw [hlen], ⟨by omega, by unfold maxLen at hm; omega, fun h0 => ?_⟩, fun hR => ?_⟩
    · obtain ⟨⟨b, off, rfl, hb, _⟩, _⟩ := hV 0 (by omega)
      refine ⟨b, off, rfl, hb, fun i n hn => ?_⟩
      obtain ⟨h1, rfl⟩ := hget i n hn
      obtain ⟨⟨b', off', e, _, hnd⟩, _⟩ := hV i h1
      injection e with e1 e2 _
      subst e1 e2
      exact hnd
    · rw [hx] at hR
      simp only [DataW.weights, underNodes] at hR
      simp only [List.all_cons, List.all_append, Bool.and_eq_true, decide_eq_true_eq, List.length_map, List.length_range, bytesNode] at hR
      obtain ⟨h1, h2, _⟩ := hR
      unfold reachBytes at h1 h2
      refine ⟨by rw [hlen]; have := Nat.mul_le_mul_right 72 (Nat.le_add_right len (m - len)); omega, fun n hn => ?_⟩
      obtain ⟨i, hi1, hi2⟩ := List.mem_iff_getElem.1 hn
      obtain ⟨h3, h4⟩ := hget i n (by rw [List.getElem?_eq_getElem hi1, hi2])
      subst h4
      have := (hV i h3).2 _ (weightsAll_at (i := i) (d := D i) h2 (by simp [h3]))
      omega

theorem cellsFlow : Tryd.prog.cellsOf 24 = 2 := by kernel_rfl
theorem cellsNodes : Tryd.prog.cellsOf 22 = 1 := by kernel_rfl

set_option maxRecDepth 100000 in
/-- a flow that came in -/
theorem open_flow {r : Reach} {b0 : Nat} {v : Value} {d : DataW H} {p : List MemPlace} (hv : Value.okWide Tryd.prog w r b0 24 v) (h : DataW.Trod enc Tryd.prog w 0 (fun _ => true) true 24 v d p) :
    ∃ (f : FK.Flow) (A : Option Addr) (c : Nat), v = .agg #[.int .i64 f.deadline, .slice A f.nodes.length c] ∧ NodesAt w w.heap.size A c f.nodes ∧ i64 f.deadline ∧ ((d.weights Tryd.prog 24).all (· ≤ reachBytes) = true → FlowFits f.nodes) := by
  obtain ⟨v0, v1, y0, y1, n, rfl, rfl, rfl, h0, h1⟩ := Joins.open_agg2 Tryd.underlying24 (by kernel_rfl) cellsFlow hv h
  obtain ⟨a0, e0, _, w0⟩ := DataW.trod_int Tryd.underlying3 h0
  simp only [List.cons.injEq, and_true] at e0
  subst e0
  obtain ⟨A, c, l, rfl, hn, hw⟩ := open_nodesAt h1
  refine ⟨⟨a0, l⟩, A, c, rfl, hn, i64_of_wf w0, fun hR => hw ?_⟩
  simp only [DataW.weights, Tryd.underlying24, List.map_cons, List.map_nil, DataW.weightsEach, List.all_append, Bool.and_eq_true] at hR
  exact hR.2.1
end
end Go.Proofs.YtagkobkmaigfcaaDoor
