/- The walks of plain.copied and plain.turn: a flow with lists of its own; these are written into. -/
import Derived.Test.YtagkobkmaigfcaaDoorOwn
namespace Go.Proofs.YtagkobkmaigfcaaDoor
open Go Go.RowKit Go.Deep

def intsV (l : List Int) : List Value := l.map (Value.int .i64)
def nodeCells (n : FK.Node) (v : Value) : List Value := [.int .i64 n.budget, .int .i64 n.close, .int .i64 n.beat, .int .i64 n.base, .int .i64 n.cap, .int .i64 n.jitter, v]
def nodesV : List FK.Node → List Value → List Value
  | n :: l, v :: vs => nodeCells n v ++ nodesV l vs
  | _, _ => []

def OwnInts (w : World) (base : Nat) (v : Value) (l : List Int) : Prop := w.ownsRow base 3 1 v l.length (intsV l)

/-- nodes with lists of their own, in memory from 'base' on -/
structure OwnNodes (w : World) (base : Nat) (v : Value) (l : List FK.Node) (vs : List Value) : Prop where
  len : vs.length = l.length
  row : w.ownsRow base 32 7 v l.length (nodesV l vs)
  ints : ∀ (i : Nat) (n : FK.Node) (u : Value), l[i]? = some n → vs[i]? = some u → OwnInts w base u n.after

theorem nodesV_snoc : ∀ (l : List FK.Node) (vs : List Value) (n : FK.Node) (v : Value), vs.length = l.length → nodesV (l ++ [n]) (vs ++ [v]) = nodesV l vs ++ nodeCells n v
  | [], [], n, v, _ => by simp [nodesV]
  | [], _ :: _, _, _, h => by simp at h
  | _ :: _, [], _, _, h => by simp at h
  | m :: l, u :: vs, n, v, h => by simp only [List.cons_append, nodesV, nodesV_snoc l vs n v (by simpa using h), List.append_assoc]

theorem nodesV_length : ∀ (l : List FK.Node) (vs : List Value), vs.length = l.length → (nodesV l vs).length = l.length * 7
  | [], [], _ => rfl
  | [], _ :: _, h => by simp at h
  | _ :: _, [], h => by simp at h
  | m :: l, u :: vs, h => by simp only [nodesV, List.length_append, nodesV_length l vs (by simpa using h), nodeCells, List.length_cons, List.length_nil]; omega

theorem nodesV_at : ∀ (l : List FK.Node) (vs : List Value) (i j : Nat) (n : FK.Node) (v : Value), vs.length = l.length → l[i]? = some n → vs[i]? = some v → j < 7 → (nodesV l vs)[i * 7 + j]? = (nodeCells n v)[j]?
  | [], _, i, _, _, _, _, h, _, _ => by simp at h
  | _ :: _, [], i, _, _, _, h, _, _, _ => by simp at h
  | m :: l, u :: vs, 0, j, n, v, h, h1, h2, hj => by
    simp at h1 h2; subst h1; subst h2
    simp only [nodesV, Nat.zero_mul, Nat.zero_add]
    rw [List.getElem?_append_left (by simp [nodeCells]; omega)]
  | m :: l, u :: vs, i + 1, j, n, v, h, h1, h2, hj => by
    simp only [List.getElem?_cons_succ] at h1 h2
    simp only [nodesV]
    rw [List.getElem?_append_right (by simp [nodeCells]; omega)]
    have : (i + 1) * 7 + j - (nodeCells m u).length = i * 7 + j := by simp [nodeCells]; omega
    rw [this]
    exact nodesV_at l vs i j n v (by simpa using h) h1 h2 hj

theorem infoInt : (Tryd.prog.info? 3).map (fun i => (i.zero, i.size, i.bytes)) = some (some (.int .i64 0), 1, 8) := by kernel_rfl
theorem infoNode : (Tryd.prog.info? 32).map (fun i => (i.zero, i.size, i.bytes)) = some (some (.agg #[.int .i64 0, .int .i64 0, .int .i64 0, .int .i64 0, .int .i64 0, .int .i64 0, .slice none 0 0]), 7, 72) := by kernel_rfl

/-- how great what came in may be -/
def FlowFits (l : List FK.Node) : Prop := l.length * 72 ≤ 140737488355328 ∧ ∀ n ∈ l, n.after.length * 8 ≤ 140737488355328

def CopyPost (w : World) (dl : Int) (l : List FK.Node) (e : Ending) (w' : World) : Prop :=
  ∃ A c vs, e = .returned (.agg #[.int .i64 dl, .slice A l.length c]) ∧ OwnNodes w' w.heap.size (.slice A l.length c) l vs ∧ Below w.heap.size w w'

theorem OwnNodes.same {w w' : World} {base : Nat} {v : Value} {l : List FK.Node} {vs : List Value} (h : OwnNodes w base v l vs) (hs : ∀ k, base ≤ k → k < w.heap.size → w'.heap[k]? = w.heap[k]?) : OwnNodes w' base v l vs :=
  ⟨h.len, own_same h.row fun k hk => hs k (own_lt h.row hk).1 (own_lt h.row hk).2, fun i n u h1 h2 => own_same (h.ints i n u h1 h2) fun k hk => hs k (own_lt (h.ints i n u h1 h2) hk).1 (own_lt (h.ints i n u h1 h2) hk).2⟩

theorem OwnNodes.same_t {w w' : World} {base : Nat} {v : Value} {l : List FK.Node} {vs : List Value} (h : OwnNodes w base v l vs) (hs : ∀ k t cs, t ≠ 24 → Blk w k t cs → w'.heap[k]? = w.heap[k]?) : OwnNodes w' base v l vs :=
  ⟨h.len, own_same_t h.row fun k cs hk => hs k _ cs (by decide) hk, fun i n u h1 h2 => own_same_t (h.ints i n u h1 h2) fun k cs hk => hs k _ cs (by decide) hk⟩

theorem OwnNodes.snoc {w w2 : World} {base : Nat} {v v2 u : Value} {l : List FK.Node} {vs : List Value} {n : FK.Node} (h : OwnNodes w base v l vs) (hu : OwnInts w base u n.after)
    (hown2 : w2.ownsRow base 32 7 v2 (l.length + 1) (nodesV l vs ++ nodeCells n u)) (hg : w.grownBy w2 v.ownBlock) : OwnNodes w2 base v2 (l ++ [n]) (vs ++ [u]) := by
  have key : ∀ (u : Value) (ys : List Int), OwnInts w base u ys → OwnInts w2 base u ys := fun u ys hu =>
    World.ownsRow.kept hu hg (own_beside hu h.row (by decide))
  refine ⟨by simp [h.len], ?_, ?_⟩
  · rw [nodesV_snoc _ _ _ _ h.len, List.length_append]
    exact hown2
  · intro i m x hi hx
    rcases Nat.lt_trichotomy i l.length with hlt | heq | hgt
    · rw [List.getElem?_append_left hlt] at hi
      rw [List.getElem?_append_left (by rw [h.len]; exact hlt)] at hx
      exact key _ _ (h.ints i m x hi hx)
    · subst heq
      rw [List.getElem?_append_right (Nat.le_refl _)] at hi
      rw [List.getElem?_append_right (by rw [h.len]; exact Nat.le_refl _), h.len] at hx
      simp at hi hx
      subst hi; subst hx
      exact key _ _ hu
    · rw [List.getElem?_eq_none (by simp; omega)] at hi
      cases hi

/-- what lies below a block stands while that block and newer ones are written -/
theorem below_then {wr w6 : World} (h : Below wr.heap.size wr w6) (hs : wr.heap.size < w6.heap.size) (i : Nat) (u : Value) (o : Obj) : Below wr.heap.size wr ((w6.setCell ⟨wr.heap.size, i, none⟩ u).alloc o) :=
  (h.setCell (Nat.le_refl _) u).alloc (by simp; omega) o

theorem ints_then {wr w6 : World} {base : Nat} {v : Value} {l : List Int} (h : OwnInts w6 base v l) (hat : v.ownBlock = none ∨ v.ownBlock = some (wr.heap.size + 1)) (i : Nat) (u : Value) (o : Obj) :
    OwnInts ((w6.setCell ⟨wr.heap.size, i, none⟩ u).alloc o) base v l := by
  refine own_same h fun k hk => ?_
  have hlt := (own_lt h hk).2
  rw [Below.heap_alloc _ _ _ (by simpa using hlt), Below.heap_setCell _ _ _ _ ?_]
  rcases hat with h' | h'
  · rw [h'] at hk; cases hk
  · rw [h'] at hk; injection hk with hk; simp; omega

/-- behind the append of a node -/
theorem copy_round {w wr w7 w8 : World} {dl : Int} {A : Option Addr} {c k : Nat} {l : List FK.Node} {n : FK.Node} {vs : List Value} {u3 u6 v8 : Value} (hown : OwnNodes wr w.heap.size u3 (l.take k) vs) (hb : Below w.heap.size w wr)
    (h7 : Below wr.heap.size wr w7) (hu : OwnInts w7 w.heap.size u6 n.after) (hn : l[k]? = some n) (hsz : w.heap.size + 1 < wr.heap.size)
    (hown8 : w8.ownsRow w.heap.size 32 7 v8 ((l.take k).length + 1) (nodesV (l.take k) vs ++ nodeCells n u6)) (hg8 : w7.grownBy w8 u3.ownBlock)
    (hb1 : Blk wr w.heap.size 24 #[.int .i64 dl, .slice A l.length c]) (hb2 : Blk wr (w.heap.size + 1) 24 #[.int .i64 0, .slice none 0 0]) :
    OwnNodes w8 w.heap.size v8 (l.take (k + 1)) (vs ++ [u6]) ∧ Below w.heap.size w w8 ∧ w.heap.size + 1 < w8.heap.size ∧ Blk w8 w.heap.size 24 #[.int .i64 dl, .slice A l.length c] ∧ Blk w8 (w.heap.size + 1) 24 #[.int .i64 0, .slice none 0 0] := by
  obtain ⟨hk, hn'⟩ := List.getElem?_eq_some_iff.1 hn
  have ho7 : OwnNodes w7 w.heap.size u3 (l.take k) vs := hown.same fun q _ hq => h7.block q hq
  have h7s := h7.size
  have h8s := hg8.size
  refine ⟨?_, ?_, by omega, ?_, ?_⟩
  · rw [List.take_succ_eq_append_getElem hk, hn']
    exact ho7.snoc hu hown8 hg8
  · refine (hb.trans (h7.mono hb.size)).grown hg8 (by omega) fun q hq => (own_lt ho7.row hq).1
  · have h1 := hb1.same h7.to_same (by omega)
    exact (hg8.block _ (by omega) (own_blk ho7.row h1 (by decide))).trans h1
  · have h1 := hb2.same h7.to_same (by omega)
    exact (hg8.block _ (by omega) (own_blk ho7.row h1 (by decide))).trans h1

set_option maxRecDepth 10000 in
set_option maxHeartbeats 2000000 in
theorem copied_calls (w : World) (B : Nat) (dl : Int) (A : Option Addr) (c : Nat) (l : List FK.Node) (hB : B ≤ w.heap.size) (hN : NodesAt w B A c l) (hfit : FlowFits l) :
    Calls Tryd.prog 27 #[.agg #[.int .i64 dl, .slice A l.length c]] w (CopyPost w dl l) := by
  obtain ⟨i0, hi, hz0, hz1, hz2⟩ := info_parts infoInt
  obtain ⟨i1, hj, hy0, hy1, hy2⟩ := info_parts infoNode
  have HI := Lib.hid hi
  have HZ0 := Lib.hid hz0
  have HZ1 := Lib.hid hz1
  have HZ2 := Lib.hid hz2
  have HJ := Lib.hid hj
  have HY0 := Lib.hid hy0
  have HY1 := Lib.hid hy1
  have HY2 := Lib.hid hy2
  have HN := Lib.hid hN
  have HF := Lib.hid hfit.2
  have hf1 := hfit.1
  have g1 := hN.len
  have g2 := hN.cap
  clear hi hz0 hz1 hz2 hj hy0 hy1 hy2 hN hfit
  go_enter Tryd.func27, Tryd.ntmps27
  go_wp2
  go_loopw [3, 9] (fun t s wr => ∃ (k : Nat) (vs : List Value), k ≤ l.length ∧ s = .int .i64 k ∧ OwnNodes wr w.heap.size t (l.take k) vs ∧ Below w.heap.size w wr ∧ w.heap.size + 1 < wr.heap.size ∧
    Blk wr w.heap.size 24 #[.int .i64 dl, .slice A l.length c] ∧ Blk wr (w.heap.size + 1) 24 #[.int .i64 0, .slice none 0 0]) (fun _ s _ => l.length - (intOf s).toNat)
  case atStart =>
    refine ⟨0, [], by omega, rfl, ⟨by simp, World.ownsRow_nil _ _ _ _, fun i n u h => by simp at h⟩, (by repeat (first | assumption | exact Below.refl _ _ | refine below_drewN ?_ _ | refine Below.drew ?_ | refine Below.alloc ?_ (by first | omega | (simp; done) | (simp; omega)) _ | refine Below.setCell ?_ (by first | omega | (simp; done) | (simp; omega)) _)), by simp, ?_, ?_⟩
    · show (((w.heap.push _).push _))[w.heap.size]? = _
      simp [Array.getElem?_push]
    · simpa using Blk.made (w.alloc (.cells #[.int .i64 dl, .slice A l.length c] 24)) 24 #[.int .i64 0, .slice none 0 0]
  case round =>
    obtain ⟨k, vs, hk, rfl, hown, hb, hsz, hb1, hb2⟩ := hrel
    have HOWN := Lib.hid hown
    have HB := Lib.hid hb
    have HB1 := Lib.hid hb1
    have HB2 := Lib.hid hb2
    have hc1 : wr.cell? ⟨w.heap.size, 0, none⟩ = some (.int .i64 dl) := hb1.cell 0
    have hc2 : wr.cell? ⟨w.heap.size, 1, none⟩ = some (.slice A l.length c) := hb1.cell 1
    by_cases hlt : k < l.length
    · obtain ⟨b, off, rfl, hbB, hcell⟩ := HN.out.cells (by omega)
      have hkn : l[k]? = some l[k] := by simp [hlt]
      obtain ⟨n, hn⟩ : ∃ n, n = l[k] := ⟨_, rfl⟩
      rw [← hn] at hkn
      clear hn hown hb1 hb2
      have hnode := (hcell k n hkn).keep (hb.to_same.mono hB) hbB
      obtain ⟨c0, c1, c2, c3, c4, c5, ⟨A6, n6, c6, hia⟩, hr⟩ := hnode
      have HI6 := Lib.hid hia
      have HKN := Lib.hid hkn
      have hal := hia.len
      have hac := hia.cap
      have hf2 := HF.out n (List.mem_of_getElem? hkn)
      have hnil : A6 = none → n.after.length = 0 := fun h => by
        rcases Nat.eq_zero_or_pos n.after.length with h0 | h0
        · exact h0
        · obtain ⟨_, _, h1, _⟩ := hia.cells h0
          rw [h] at h1; cases h1
      have HNIL := Lib.hid hnil
      have HNEWS : Hid (∀ (W : World), Same B wr W → ∀ ad, A6 = some ad → ∀ j u, (intsV n.after)[j]? = some u → W.cell? (ad.add j) = some u) := fun W hs ad had j u hu => by
        have hj : j < n.after.length := by have := (List.getElem?_eq_some_iff.1 hu).1; simpa [intsV] using this
        obtain ⟨b6, o6, hA, hb6, hcs⟩ := (hia.keep hs).cells (by omega)
        rw [had] at hA; injection hA with hA; subst hA
        have e : (⟨b6, o6, none⟩ : Addr).add j = ⟨b6, o6 + j, none⟩ := by unfold Addr.add; split <;> simp_all
        rw [e]
        simp [intsV] at hu
        obtain ⟨y, hy, rfl⟩ := hu
        exact hcs j y hy
      clear hcell hr hia hkn hb hnil
      have tok1 : True := trivial
      have hkl : (List.take k l).length = k := by simp; omega
      have HKL := Lib.hid hkl
      clear hkl
      go_wp2_with (first | (at_builtin; have _t := tok1; go_must (refine wpList_app _ rfl (.const (.slice none 0 0)) (.tmp 14) 30 rfl w.heap.size 3 i0 (.int .i64 0) 1 8 Tryd.underlying30 HI.out HZ0.out HZ1.out HZ2.out rfl (by decide) (.slice none 0 0) 0 [] rfl (World.ownsRow_nil _ _ _ _) A6 n.after.length n6 (intsV n.after) rfl (by simp [intsV]) HNIL.out (HNEWS.out _ (fun x hx => Below.heap_alloc _ _ _ (by omega))) (by simp [intsV, Value.oneCell']) (by unfold maxLen; omega) (by omega) (by first | omega | (simp; done) | (simp; omega)) ?_; intro v6 w6 hown6 hg6 hat6 _; obtain ⟨A7, c7, rfl, hA7, _⟩ := own_form hown6; have HB6 : Hid (Below wr.heap.size wr w6) := ((Below.refl _ _).alloc (Nat.le_refl _) _).trans ((Below.refl _ _).grown hg6 (by simp) (by simp [Value.ownBlock])); have hsz6 : wr.heap.size < w6.heap.size := (by have := hg6.size; simp at this; omega); have HOWN6 := Lib.hid hown6; have HBOX : Hid (Blk w6 wr.heap.size 32 #[.int .i64 n.budget, .int .i64 n.close, .int .i64 n.beat, .int .i64 n.base, .int .i64 n.cap, .int .i64 n.jitter, .slice A6 n.after.length n6]) := (hg6.block _ (by simp) (by simp [Value.ownBlock])).trans (Blk.made _ _ _); have HAT6 := Lib.hid hat6; clear hown6 hg6 hat6 tok1; have x0 := HBOX.out.cell 0; have x1 := HBOX.out.cell 1; have x2 := HBOX.out.cell 2; have x3 := HBOX.out.cell 3; have x4 := HBOX.out.cell 4; have x5 := HBOX.out.cell 5; have x6 := HBOX.out.cell 6; have xf := HBOX.out.free 6; simp only [List.getElem?_toArray, List.getElem?_cons_zero, List.getElem?_cons_succ] at x0 x1 x2 x3 x4 x5 x6)) | (at_builtin; go_must (refine wpList_app _ rfl (.tmp 17) (.tmp 19) 22 rfl w.heap.size 32 i1 _ 7 72 Tryd.underlying22 HJ.out HY0.out HY1.out HY2.out rfl (by decide) u3 (List.take k l).length (nodesV (List.take k l) vs) rfl (HOWN.out.same (fun q _ hq => (below_then HB6.out hsz6 _ _ _).block q hq)).row (some ⟨w6.heap.size, 0, none⟩) 1 1 (nodeCells n (.slice A7 n.after.length c7)) rfl rfl (fun h => by cases h) (fun ad had => by injection had with had; subst had; exact cells_new_at _ _ _ _ _ (by simp) rfl) (by simp [nodeCells, Value.oneCell']) (by have := HKL.out; unfold maxLen; omega) (by have := HKL.out; omega) (by first | omega | (simp; done) | (simp; omega)) ?_; intro v8 w8 hown8 hg8 hat8 _)))
      have hr := copy_round (n := n) HOWN.out HB.out (below_then HB6.out hsz6 _ _ _) (ints_then (by unfold OwnInts; simpa using HOWN6.out) (by simpa [Value.ownBlock] using HAT6.out) _ _ _) HKN.out hsz hown8 hg8 HB1.out HB2.out
      have HR := Lib.hid hr
      clear hr hown8 hg8 hat8
      go_roundw
      case rel => exact ⟨k + 1, _, by omega, by go_num, HR.out⟩
      case measure => simp [intOf]; omega
    · obtain rfl : k = l.length := by omega
      rw [List.take_length] at HOWN hown
      obtain ⟨A3, c3, rfl, _⟩ := own_form hown.row
      have y0 := hb2.cell 0
      have y1 := hb2.cell 1
      have f1 := hb1.free 1
      have f2 := hb2.free 0
      have f3 := hb2.free 1
      simp only [List.getElem?_toArray, List.getElem?_cons_zero, List.getElem?_cons_succ] at y0 y1
      clear hown hb1 hb2 hb
      go_wp2
      have hfin : Blk (((wr.setCell ⟨w.heap.size, 1, none⟩ (.slice A3 l.length c3)).setCell ⟨w.heap.size + 1, 0, none⟩ (.int .i64 dl)).setCell ⟨w.heap.size + 1, 1, none⟩ (.slice A3 l.length c3)) (w.heap.size + 1) 24 #[.int .i64 dl, .slice A3 l.length c3] :=
        ((HB2.out.far (p := ⟨w.heap.size, 1, none⟩) (by simp) _).put 0 _).put 1 _
      have hcl0 := hfin.cell 0
      have hcl1 := hfin.cell 1
      simp only [List.getElem?_toArray, List.getElem?_cons_zero, List.getElem?_cons_succ] at hcl0 hcl1
      refine bodyPost_ret (v := .agg #[.int .i64 dl, .slice A3 l.length c3]) (by simp [results, Tryd.results27, go_sem, hcl0, hcl1]) rfl ?_
      refine ⟨A3, c3, vs, rfl, HOWN.out.same_t fun q t cs ht hq => ?_, (by repeat (first | exact HB.out | refine below_drewN ?_ _ | refine Below.drew ?_ | refine Below.alloc ?_ (by first | omega | (simp; done) | (simp; omega)) _ | refine Below.setCell ?_ (by first | omega | (simp; done) | (simp; omega)) _))⟩
      have n1 : q ≠ w.heap.size := hq.beside HB1.out ht
      have n2 : q ≠ w.heap.size + 1 := hq.beside HB2.out ht
      rw [Below.heap_setCell _ _ _ _ (by simpa using n2), Below.heap_setCell _ _ _ _ (by simpa using n2), Below.heap_setCell _ _ _ _ (by simpa using n1)]

theorem OwnNodes.nodesAt {w : World} {base : Nat} {A : Option Addr} {c : Nat} {l : List FK.Node} {vs : List Value} (h : OwnNodes w base (.slice A l.length c) l vs)
    (hr : ∀ n ∈ l, (i64 n.budget ∧ i64 n.close ∧ i64 n.beat ∧ i64 n.base ∧ i64 n.cap ∧ i64 n.jitter) ∧ ∀ x ∈ n.after, i64 x) : NodesAt w w.heap.size A c l := by
  have hrow := h.row
  rcases hrow.2 with ⟨he, h0⟩ | ⟨g, cap, cur, he, hb, hg, h1, h2, _⟩
  · injection he with _ _ hc
    subst hc
    exact ⟨by omega, by omega, fun hl => by omega⟩
  · injection he with hA _ hc
    subst hA; subst hc
    refine ⟨h1, by unfold maxLen at h2; omega, fun hl => ⟨g, 0, rfl, (own_lt hrow rfl).2, fun i n hn => ?_⟩⟩
    obtain ⟨hi, _⟩ := List.getElem?_eq_some_iff.1 hn
    have hu : ∃ u, vs[i]? = some u := ⟨vs[i]'(by rw [h.len]; exact hi), by simp⟩
    obtain ⟨u, hu⟩ := hu
    have hint := h.ints i n u hn hu
    have hcell : ∀ j x, j < 7 → (nodeCells n u)[j]? = some x → w.cell? ⟨g, 0 + i * 7 + j, none⟩ = some x := fun j x hj hx => by
      have := hrow.cells (g := g) rfl (i * 7 + j) x (by rw [nodesV_at l vs i j n u h.len hn hu hj]; exact hx)
      have e : (⟨g, 0, none⟩ : Addr).add (i * 7 + j) = ⟨g, i * 7 + j, none⟩ := by unfold Addr.add; split <;> simp_all
      rw [e] at this
      rw [Nat.zero_add]; exact this
    obtain ⟨A6, c6, rfl, hA6, h6, h6'⟩ := own_form hint
    have hrn := hr n (List.mem_of_getElem? hn)
    refine ⟨hcell 0 _ (by omega) rfl, hcell 1 _ (by omega) rfl, hcell 2 _ (by omega) rfl, hcell 3 _ (by omega) rfl, hcell 4 _ (by omega) rfl, hcell 5 _ (by omega) rfl, ⟨A6, c6, hcell 6 _ (by omega) rfl, hrn.2, h6, by unfold maxLen at h6'; omega, fun hl => ?_⟩, hrn.1⟩
    rcases hint.2 with ⟨he, h0⟩ | ⟨g6, cap6, cur6, he, _⟩
    · omega
    · injection he with hA _ _
      subst hA
      refine ⟨g6, 0, rfl, (own_lt hint rfl).2, fun j x hx => ?_⟩
      have := hint.cells (g := g6) rfl j (.int .i64 x) (by simp [intsV, hx])
      have e : (⟨g6, 0, none⟩ : Addr).add j = ⟨g6, j, none⟩ := by unfold Addr.add; split <;> simp_all
      rw [e] at this
      rw [Nat.zero_add]; exact this
end Go.Proofs.YtagkobkmaigfcaaDoor
