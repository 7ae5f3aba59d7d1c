/- The walk of the document's Check. -/
import Derived.Test.YtagkobkmaigfcaaDoorCheckB
import Derived.BigQuiet
namespace Go.Proofs.YtagkobkmaigfcaaDoor
open Go Go.RowKit Go.Deep

set_option maxHeartbeats 400000 in
theorem ref_span_yes (n low : Int) (w : World) (h1 : low ≤ n) (h2 : n ≤ 1048576) :
    Calls Tryd.prog 26 #[.int .i64 n, .int .i64 low] w fun e w' => e = .returned (.bool true) ∧ w = w' := by
  go_enter Tryd.func26, Tryd.ntmps26
  go_wp2
  go_ret
  exact ⟨rfl, rfl⟩

set_option maxHeartbeats 400000 in
theorem ref_span_no (n low : Int) (w : World) (h : n < low ∨ 1048576 < n) :
    Calls Tryd.prog 26 #[.int .i64 n, .int .i64 low] w fun e w' => e = .returned (.bool false) ∧ w = w' := by
  by_cases hl : low ≤ n
  · have h2 : decide (n ≤ 1048576) = false := by simp; omega
    clear h
    go_enter Tryd.func26, Tryd.ntmps26
    go_wp2
    go_ret
    exact ⟨rfl, rfl⟩
  · have h2 : n < low := by omega
    clear h
    go_enter Tryd.func26, Tryd.ntmps26
    go_wp2
    go_ret
    exact ⟨rfl, rfl⟩

/-- what a node's span is, as a bool -/
def spanB (n low : Int) : Bool := decide (low ≤ n ∧ n ≤ 1048576)

theorem ref_span_any (n low : Int) (w : World) :
    Calls Tryd.prog 26 #[.int .i64 n, .int .i64 low] w fun e w' => e = .returned (.bool (spanB n low)) ∧ w = w' := by
  by_cases h : low ≤ n ∧ n ≤ 1048576
  · have : spanB n low = true := by simp [spanB, h]
    rw [this]; exact ref_span_yes n low w h.1 h.2
  · have : spanB n low = false := by simp only [spanB, decide_eq_false_iff_not]; exact h
    rw [this]; exact ref_span_no n low w (by omega)

theorem spanB_yes {n low : Int} (h1 : low ≤ n) (h2 : n ≤ 1048576) : spanB n low = true := by simp [spanB, h1, h2]
theorem spanB_no {n low : Int} (h : n < low ∨ 1048576 < n) : spanB n low = false := by simp only [spanB, decide_eq_false_iff_not]; omega

def ChkPost (w : World) (p : Int × Int) (e : Ending) (w' : World) : Prop := e = .returned (.tuple #[.int .i64 p.1, .int .i64 p.2]) ∧ Below w.heap.size w w'

def boolCells (g : List Bool) : Array Value := (g.map Value.bool).toArray
theorem boolCells_at {g : List Bool} {i : Nat} {b : Bool} (h : g[i]? = some b) : (boolCells g)[i]? = some (.bool b) := by simp [boolCells, h]
theorem boolCells_set (g : List Bool) (i : Nat) (b : Bool) : (boolCells g).setIfInBounds i (.bool b) = boolCells (g.set i b) := by
  apply Array.ext_getElem?
  intro k
  rw [Array.getElem?_setIfInBounds]
  simp only [boolCells, List.getElem?_toArray, List.getElem?_map, List.getElem?_set, List.size_toArray, List.length_map]
  by_cases h : i = k <;> by_cases h' : k < g.length <;> simp [h, h'] <;> (try (subst h; simp [h']))
theorem boolCells_made (n : Nat) : madeCells #[Value.bool false] n = boolCells (List.replicate n false) := by
  unfold madeCells boolCells
  apply Array.ext_getElem?
  intro k
  by_cases hk : k < n <;> simp [hk, Nat.mod_one]

/-- of what node i waits for: the first m are gone -/
def FreeTo (l : List FK.Node) (g : List Bool) (i m : Nat) (b : Bool) : Prop := b = true ↔ ∀ k ∈ (FK.aft l i).take m, g[k]? = some true

theorem FreeTo.start (l : List FK.Node) (g : List Bool) (i : Nat) : FreeTo l g i 0 true := by simp [FreeTo]
theorem FreeTo.next {l : List FK.Node} {g : List Bool} {i m x : Nat} {b c : Bool} (h : FreeTo l g i m b) (hx : (FK.aft l i)[m]? = some x) (hg : g[x]? = some c) : FreeTo l g i (m + 1) (b && c) := by
  obtain ⟨hm, hx⟩ := List.getElem?_eq_some_iff.1 hx
  unfold FreeTo at *
  rw [List.take_succ_eq_append_getElem hm, hx]
  rw [Bool.and_eq_true, h]
  constructor
  · rintro ⟨h1, h2⟩ k hk
    simp at hk
    rcases hk with hk | rfl
    · exact h1 k hk
    · rw [hg, h2]
  · intro hk
    refine ⟨fun k hk' => hk k (by simp [hk']), ?_⟩
    have := hk x (by simp)
    rw [hg] at this
    exact Option.some.inj this
theorem FreeTo.whole {l : List FK.Node} {g : List Bool} {i m : Nat} {b : Bool} (h : FreeTo l g i m b) (hm : (FK.aft l i).length ≤ m) : b = true ↔ ∀ k ∈ FK.aft l i, g[k]? = some true := by
  unfold FreeTo at h
  rwa [List.take_of_length_le hm] at h

theorem ChkPost.mk {w w' : World} {p : Int × Int} (hb : Below w.heap.size w w') : ChkPost w p (.returned (.tuple #[.int .i64 p.1, .int .i64 p.2])) w' := ⟨rfl, hb⟩

set_option maxRecDepth 100000 in
set_option maxHeartbeats 1000000 in
theorem ref_check_head (w : World) (A : Option Addr) (c : Nat) (f : FK.Flow)
    (hh : ¬ FK.HeadOk f) : Calls Tryd.prog 8 #[.agg #[.int .i64 f.deadline, .slice A f.nodes.length c]] w (ChkPost w (FK.chk f)) := by
  have HR := Lib.hid (FK.Checked.head hh).chk
  have hcases : (f.deadline < 1 ∨ 1048576 < f.deadline) ∨ ((1 ≤ f.deadline ∧ f.deadline ≤ 1048576) ∧ f.nodes.length = 0) ∨ ((1 ≤ f.deadline ∧ f.deadline ≤ 1048576) ∧ 12 < f.nodes.length) := by
    unfold FK.HeadOk FK.span at hh; omega
  clear hh
  rw [HR.out]
  rcases hcases with h | ⟨⟨h1, h2⟩, h3⟩ | ⟨⟨h1, h2⟩, h3⟩
  · go_enter Tryd.func8, Tryd.ntmps8
    go_wp2_with (go_at_call 26; refine (ref_span_no _ _ _ (by omega)).mono ?_; rintro e w2 ⟨rfl, rfl⟩)
    go_ret2
    exact ChkPost.mk (p := (2, -1)) (by repeat (first | assumption | exact Below.refl _ _ | refine below_drewN ?_ _ | refine Below.drew ?_ | refine Below.alloc ?_ (by first | omega | (simp; done) | (simp; omega)) _ | refine Below.setCell ?_ (by first | omega | (simp; done) | (simp; omega)) _))
  · have h3' : ((f.nodes.length : Int) == 0) = true := by simp [h3]
    have H3 := Lib.hid h3
    clear h3
    go_enter Tryd.func8, Tryd.ntmps8
    go_wp2_with (go_at_call 26; refine (ref_span_yes _ _ _ (by omega) (by omega)).mono ?_; rintro e w2 ⟨rfl, rfl⟩)
    go_ret2
    exact ChkPost.mk (p := (2, -1)) (by repeat (first | assumption | exact Below.refl _ _ | refine below_drewN ?_ _ | refine Below.drew ?_ | refine Below.alloc ?_ (by first | omega | (simp; done) | (simp; omega)) _ | refine Below.setCell ?_ (by first | omega | (simp; done) | (simp; omega)) _))
  · have h3' : ((f.nodes.length : Int) == 0) = false := by rw [beq_eq_false_iff_ne]; omega
    go_enter Tryd.func8, Tryd.ntmps8
    go_wp2_with (go_at_call 26; refine (ref_span_yes _ _ _ (by omega) (by omega)).mono ?_; rintro e w2 ⟨rfl, rfl⟩)
    go_ret2
    exact ChkPost.mk (p := (2, -1)) (by repeat (first | assumption | exact Below.refl _ _ | refine below_drewN ?_ _ | refine Below.drew ?_ | refine Below.alloc ?_ (by first | omega | (simp; done) | (simp; omega)) _ | refine Below.setCell ?_ (by first | omega | (simp; done) | (simp; omega)) _))

theorem infoBool : (Tryd.prog.info? 4).map (fun i => (i.zero, i.size, i.bytes)) = some (some (.bool false), 1, 1) := by kernel_rfl

/-- the edge of which is asked at m, and the one ahead of it -/
def LastRel (len : Nat) (l : List Int) (m : Nat) : Prop := FK.EdgesOk len (-1) l ↔ FK.EdgesOk len (if m = 0 then -1 else l.getD (m - 1) 0) (l.drop m)
end Go.Proofs.YtagkobkmaigfcaaDoor
