/- The walks of flow.fields and flow.Bytes. -/
import Derived.Test.YtagkobkmaigfcaaDoorBytes
import Derived.Test.YtagkobkmaigfcaaDoorOwn
import Derived.Deep.RegionWith
import Derived.Deep.DeepCutAuto
import Derived.StillTailTactics
namespace Go.Proofs.YtagkobkmaigfcaaDoor
open Go Go.RowKit Go.Deep

def fieldPtrs (b o : Nat) : Array Value := #[.pointer (some ⟨b, o, none⟩), .pointer (some ⟨b, o + 1, none⟩), .pointer (some ⟨b, o + 2, none⟩), .pointer (some ⟨b, o + 3, none⟩), .pointer (some ⟨b, o + 4, none⟩), .pointer (some ⟨b, o + 5, none⟩)]

theorem put6 {w : World} {g : Nat} {t : TypeId} {x0 x1 x2 x3 x4 x5 : Value} (h : Blk w g t #[x0, x1, x2, x3, x4, x5]) (u0 u1 u2 u3 u4 u5 : Value) :
    Blk ((((((w.setCell ⟨g, 0, none⟩ u0).setCell ⟨g, 1, none⟩ u1).setCell ⟨g, 2, none⟩ u2).setCell ⟨g, 3, none⟩ u3).setCell ⟨g, 4, none⟩ u4).setCell ⟨g, 5, none⟩ u5) g t #[u0, u1, u2, u3, u4, u5] := by
  have h := h.put 0 u0
  have h := h.put 1 u1
  have h := h.put 2 u2
  have h := h.put 3 u3
  have h := h.put 4 u4
  have h := h.put 5 u5
  simpa using h

set_option maxRecDepth 100000 in
set_option maxHeartbeats 1000000 in
theorem fields_calls (w : World) (b : Nat) :
    Calls Tryd.prog 75 #[.pointer (some ⟨b, 0, none⟩)] w fun e w' => e = .returned (.agg (fieldPtrs b 0)) ∧ Below w.heap.size w w' := by
  go_enter Tryd.func75, Tryd.ntmps75
  go_wp2
  go_still_tail 19, (by kernel_rfl)
  change wpList _ _ _ _ _ ((w.alloc (.cells #[.pointer none, .pointer none, .pointer none, .pointer none, .pointer none, .pointer none] 135)).drew)
  have hblk : Blk ((w.alloc (.cells #[.pointer none, .pointer none, .pointer none, .pointer none, .pointer none, .pointer none] 135)).drew) w.heap.size 135 #[.pointer none, .pointer none, .pointer none, .pointer none, .pointer none, .pointer none] := Blk.made w _ _
  have hb2 : Below w.heap.size w ((w.alloc (.cells #[.pointer none, .pointer none, .pointer none, .pointer none, .pointer none, .pointer none] 135)).drew) := ((Below.refl _ _).alloc (Nat.le_refl _) _).drew
  obtain ⟨w2, hw2⟩ : ∃ w2, w2 = ((w.alloc (.cells #[.pointer none, .pointer none, .pointer none, .pointer none, .pointer none, .pointer none] 135)).drew) := ⟨_, rfl⟩
  rw [← hw2] at hblk hb2 ⊢
  clear hw2
  have c0 := hblk.cell 0
  have c1 := hblk.cell 1
  have c2 := hblk.cell 2
  have c3 := hblk.cell 3
  have c4 := hblk.cell 4
  have c5 := hblk.cell 5
  have f0 := hblk.free 0
  have f1 := hblk.free 1
  have f2 := hblk.free 2
  have f3 := hblk.free 3
  have f4 := hblk.free 4
  have f5 := hblk.free 5
  simp only [List.getElem?_toArray, List.getElem?_cons_zero, List.getElem?_cons_succ] at c0 c1 c2 c3 c4 c5
  have HB := Lib.hid hblk
  clear hblk
  go_wp2
  have hbF : Below w.heap.size w ((((((w2.setCell ⟨w.heap.size, 0, none⟩ (.pointer (some ⟨b, 0, none⟩))).setCell ⟨w.heap.size, 1, none⟩ (.pointer (some ⟨b, 1, none⟩))).setCell ⟨w.heap.size, 2, none⟩ (.pointer (some ⟨b, 2, none⟩))).setCell ⟨w.heap.size, 3, none⟩ (.pointer (some ⟨b, 3, none⟩))).setCell ⟨w.heap.size, 4, none⟩ (.pointer (some ⟨b, 4, none⟩))).setCell ⟨w.heap.size, 5, none⟩ (.pointer (some ⟨b, 5, none⟩))) := (((((hb2.setCell (by simp) _).setCell (by simp) _).setCell (by simp) _).setCell (by simp) _).setCell (by simp) _).setCell (by simp) _
  have hfin : Blk (((((((w2.setCell ⟨w.heap.size, 0, none⟩ (.pointer (some ⟨b, 0, none⟩))).setCell ⟨w.heap.size, 1, none⟩ (.pointer (some ⟨b, 1, none⟩))).setCell ⟨w.heap.size, 2, none⟩ (.pointer (some ⟨b, 2, none⟩))).setCell ⟨w.heap.size, 3, none⟩ (.pointer (some ⟨b, 3, none⟩))).setCell ⟨w.heap.size, 4, none⟩ (.pointer (some ⟨b, 4, none⟩))).setCell ⟨w.heap.size, 5, none⟩ (.pointer (some ⟨b, 5, none⟩)))) w.heap.size 135 (fieldPtrs b 0) :=
    put6 HB.out _ _ _ _ _ _
  obtain ⟨w3, hw3⟩ : ∃ w3, w3 = ((((((w2.setCell ⟨w.heap.size, 0, none⟩ (.pointer (some ⟨b, 0, none⟩))).setCell ⟨w.heap.size, 1, none⟩ (.pointer (some ⟨b, 1, none⟩))).setCell ⟨w.heap.size, 2, none⟩ (.pointer (some ⟨b, 2, none⟩))).setCell ⟨w.heap.size, 3, none⟩ (.pointer (some ⟨b, 3, none⟩))).setCell ⟨w.heap.size, 4, none⟩ (.pointer (some ⟨b, 4, none⟩))).setCell ⟨w.heap.size, 5, none⟩ (.pointer (some ⟨b, 5, none⟩))) := ⟨_, rfl⟩
  rw [← hw3] at hfin hbF ⊢
  clear hw3 c0 c1 c2 c3 c4 c5 f0 f1 f2 f3 f4 f5 HB hb2
  have d0 := hfin.cell 0
  have d1 := hfin.cell 1
  have d2 := hfin.cell 2
  have d3 := hfin.cell 3
  have d4 := hfin.cell 4
  have d5 := hfin.cell 5
  simp only [fieldPtrs, List.getElem?_toArray, List.getElem?_cons_zero, List.getElem?_cons_succ] at d0 d1 d2 d3 d4 d5
  refine bodyPost_ret (v := .agg (fieldPtrs b 0)) (by simp [results, Tryd.results75, go_sem, d0, d1, d2, d3, d4, d5, fieldPtrs]) rfl ?_
  exact ⟨rfl, hbF⟩

theorem flat_len {α : Type} (f : α → List UInt8) (c : Nat) : ∀ (l : List α), (∀ x ∈ l, (f x).length ≤ c) → (l.flatMap f).length ≤ c * l.length
  | [], _ => by simp
  | x :: l, h => by
    have := flat_len f c l fun y hy => h y (by simp [hy])
    have h0 := h x (by simp)
    simp only [List.flatMap_cons, List.length_append, List.length_cons, Nat.mul_add]; omega

theorem encNode_len {n : FK.Node} {len : Nat} (hlen : len ≤ 12) (hn : FK.NodeOk n) (he : FK.EdgesOk len (-1) n.after) : (FK.encNode n).length ≤ 57 := by
  obtain ⟨a1, a2, ⟨b1, b2⟩, ⟨c1, c2⟩, ⟨d1, d2⟩, ⟨e1, e2⟩, f1, f2⟩ := hn
  have hb := he.bounds
  have hal : n.after.length ≤ 12 := by
    rcases he.length_le (by omega) with h | h
    · omega
    · rw [h]; simp
  have h := flat_len (fun k : Int => FK.encN k.toNat) 3 n.after fun k hk => FK.encN_length_le (by have := hb k hk; omega)
  have g1 := FK.encN_length_le (n := n.budget.toNat) (by omega)
  have g2 := FK.encN_length_le (n := n.close.toNat) (by omega)
  have g3 := FK.encN_length_le (n := n.beat.toNat) (by omega)
  have g4 := FK.encN_length_le (n := n.base.toNat) (by omega)
  have g5 := FK.encN_length_le (n := n.cap.toNat) (by omega)
  have g6 := FK.encN_length_le (n := n.jitter.toNat) (by omega)
  have g7 := FK.encN_length_le (n := n.after.length) (by omega)
  simp only [FK.encNode, List.length_append]
  omega

/-- numbers of a node, ahead of its list -/
def nums (n : FK.Node) : List Int := [n.budget, n.close, n.beat, n.base, n.cap, n.jitter]

theorem encNode_nums (n : FK.Node) : FK.encNode n = (nums n).flatMap (fun k => FK.encN k.toNat) ++ FK.encN n.after.length ++ n.after.flatMap fun k => FK.encN k.toNat := by
  simp [FK.encNode, nums]

end Go.Proofs.YtagkobkmaigfcaaDoor
