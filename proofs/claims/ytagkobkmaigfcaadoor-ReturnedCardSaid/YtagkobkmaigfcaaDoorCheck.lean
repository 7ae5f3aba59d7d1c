/- The walk of flow.Check: what is wrong with a flow. -/
import Derived.Test.YtagkobkmaigfcaaDoorOrder
namespace Go.Proofs.YtagkobkmaigfcaaDoor
open Go Go.RowKit Go.Deep

/-- an error with a place, or nil -/
def ErrAt (w : World) (base : Nat) (v : Value) (p : Int × Int) : Prop :=
  (p.1 = 0 ∧ v = .nilIface) ∨ (p.1 ≠ 0 ∧ ∃ b, v = .iface 95 (.pointer (some ⟨b, 0, none⟩)) ∧ base ≤ b ∧ Blk w b 100 #[.int .i64 p.1, .int .i64 p.2])

theorem ErrAt.made {w : World} {base : Nat} {p : Int × Int} (hp : p.1 ≠ 0) (hb : base ≤ w.heap.size) :
    ErrAt (w.alloc (.cells #[.int .i64 p.1, .int .i64 p.2] 100)) base (.iface 95 (.pointer (some ⟨w.heap.size, 0, none⟩))) p :=
  .inr ⟨hp, _, rfl, hb, Blk.made _ _ _⟩

theorem ErrAt.keep {w w' : World} {base : Nat} {v : Value} {p : Int × Int} (h : ErrAt w base v p) (hs : ∀ b, base ≤ b → b < w.heap.size → w'.heap[b]? = w.heap[b]?) : ErrAt w' base v p := by
  rcases h with h | ⟨hp, b, hv, hb, hk⟩
  · exact .inl h
  · exact .inr ⟨hp, b, hv, hb, (hs b hb hk.lt).trans hk⟩

set_option maxHeartbeats 400000 in
theorem span_yes (n low : Int) (w : World) (h1 : low ≤ n) (h2 : n ≤ 1048576) :
    Calls Tryd.prog 70 #[.int .i64 n, .int .i64 low] w fun e w' => e = .returned (.bool true) ∧ w = w' := by
  go_enter Tryd.func70, Tryd.ntmps70
  go_wp2
  go_ret
  exact ⟨rfl, rfl⟩

set_option maxHeartbeats 400000 in
theorem span_no (n low : Int) (w : World) (h : n < low ∨ 1048576 < n) :
    Calls Tryd.prog 70 #[.int .i64 n, .int .i64 low] w fun e w' => e = .returned (.bool false) ∧ w = w' := by
  by_cases hl : low ≤ n
  · have h2 : decide (n ≤ 1048576) = false := by simp; omega
    clear h
    go_enter Tryd.func70, Tryd.ntmps70
    go_wp2
    go_ret
    exact ⟨rfl, rfl⟩
  · have h2 : n < low := by omega
    clear h
    go_enter Tryd.func70, Tryd.ntmps70
    go_wp2
    go_ret
    exact ⟨rfl, rfl⟩

set_option maxHeartbeats 400000 in
theorem fault_calls (e a : Int) (w : World) :
    Calls Tryd.prog 69 #[.int .i64 e, .int .i64 a] w fun en w' => en = .returned (.iface 95 (.pointer (some ⟨w.heap.size, 0, none⟩))) ∧ w.alloc (.cells #[.int .i64 e, .int .i64 a] 100) = w' := by
  go_enter Tryd.func69, Tryd.ntmps69
  go_wp2
  go_ret
  exact ⟨rfl, rfl⟩

set_option maxHeartbeats 400000 in
theorem noop_calls (k : Int) (w : World) :
    Calls Tryd.prog 72 #[.int .i64 k] w fun en w' => en = .returned (.tuple #[]) ∧ w = w' := by
  go_enter Tryd.func72, Tryd.ntmps72
  go_wp2
  go_end0
  exact ⟨rfl, rfl⟩

/-- the ways in which a node may be out of its bounds, in the order in which they are asked -/
theorem not_nodeOk {n : FK.Node} (h : ¬ FK.NodeOk n) :
    n.budget < 1 ∨ (1 ≤ n.budget ∧ 5 < n.budget) ∨ ((1 ≤ n.budget ∧ n.budget ≤ 5) ∧ (n.close < 1 ∨ 1048576 < n.close)) ∨
    ((1 ≤ n.budget ∧ n.budget ≤ 5) ∧ (1 ≤ n.close ∧ n.close ≤ 1048576) ∧ (n.beat < 0 ∨ 1048576 < n.beat)) ∨
    ((1 ≤ n.budget ∧ n.budget ≤ 5) ∧ (1 ≤ n.close ∧ n.close ≤ 1048576) ∧ (0 ≤ n.beat ∧ n.beat ≤ 1048576) ∧ (n.base < 1 ∨ 1048576 < n.base)) ∨
    ((1 ≤ n.budget ∧ n.budget ≤ 5) ∧ (1 ≤ n.close ∧ n.close ≤ 1048576) ∧ (0 ≤ n.beat ∧ n.beat ≤ 1048576) ∧ (1 ≤ n.base ∧ n.base ≤ 1048576) ∧ (n.cap < n.base ∨ 1048576 < n.cap)) ∨
    ((1 ≤ n.budget ∧ n.budget ≤ 5) ∧ (1 ≤ n.close ∧ n.close ≤ 1048576) ∧ (0 ≤ n.beat ∧ n.beat ≤ 1048576) ∧ (1 ≤ n.base ∧ n.base ≤ 1048576) ∧ (n.base ≤ n.cap ∧ n.cap ≤ 1048576) ∧ (n.jitter < 0 ∨ 1048576 < n.jitter)) := by
  unfold FK.NodeOk FK.span at h
  omega

def CheckPost (w : World) (p : Int × Int) (e : Ending) (w' : World) : Prop := ∃ v, e = .returned v ∧ ErrAt w' w.heap.size v p ∧ Below w.heap.size w w'

theorem CheckPost.fault {w w' : World} {p : Int × Int} {b : Nat} (hp : p.1 ≠ 0) (hb : Below w.heap.size w w') (he : w'.heap.size = b) :
    CheckPost w p (.returned (.iface 95 (.pointer (some ⟨b, 0, none⟩)))) (w'.alloc (.cells #[.int .i64 p.1, .int .i64 p.2] 100)) :=
  ⟨_, rfl, by subst he; exact .made hp hb.size, hb.alloc hb.size _⟩

set_option maxRecDepth 100000 in
set_option maxHeartbeats 1000000 in
/-- the head of a flow is out of its bounds -/
theorem check_head (w : World) (A : Option Addr) (c : Nat) (f : FK.Flow) (hh : ¬ FK.HeadOk f) : Calls Tryd.prog 49 #[.agg #[.int .i64 f.deadline, .slice A f.nodes.length c]] w (CheckPost w (FK.chk f)) := by
  have HR := Lib.hid (FK.Checked.head hh).chk
  have hcases : (f.deadline < 1 ∨ 1048576 < f.deadline) ∨ ((1 ≤ f.deadline ∧ f.deadline ≤ 1048576) ∧ f.nodes.length = 0) ∨ ((1 ≤ f.deadline ∧ f.deadline ≤ 1048576) ∧ 12 < f.nodes.length) := by
    unfold FK.HeadOk FK.span at hh; omega
  clear hh
  rw [HR.out]
  rcases hcases with h | ⟨⟨h1, h2⟩, h3⟩ | ⟨⟨h1, h2⟩, h3⟩
  · go_enter Tryd.func49, Tryd.ntmps49
    go_wp2_with (first
      | (go_at_call 70; refine (span_no _ _ _ (by omega)).mono ?_; rintro e w2 ⟨rfl, rfl⟩)
      | (go_at_call 69; refine (fault_calls _ _ _).mono ?_; rintro e w2 ⟨rfl, rfl⟩))
    go_ret
    refine CheckPost.fault (w := w) (p := (2, -1)) (by decide) ?_ (by simp)
    exact (by repeat (first | assumption | exact Below.refl _ _ | refine below_drewN ?_ _ | refine Below.drew ?_ | refine Below.alloc ?_ (by first | omega | (simp; done) | (simp; omega)) _ | refine Below.setCell ?_ (by first | omega | (simp; done) | (simp; omega)) _))
  · have h3' : ((f.nodes.length : Int) == 0) = true := by simp [h3]
    have H3 := Lib.hid h3
    clear h3
    go_enter Tryd.func49, Tryd.ntmps49
    go_wp2_with (first
      | (go_at_call 70; refine (span_yes _ _ _ (by omega) (by omega)).mono ?_; rintro e w2 ⟨rfl, rfl⟩)
      | (go_at_call 69; refine (fault_calls _ _ _).mono ?_; rintro e w2 ⟨rfl, rfl⟩))
    go_ret
    refine CheckPost.fault (w := w) (p := (2, -1)) (by decide) ?_ (by simp)
    exact (by repeat (first | assumption | exact Below.refl _ _ | refine below_drewN ?_ _ | refine Below.drew ?_ | refine Below.alloc ?_ (by first | omega | (simp; done) | (simp; omega)) _ | refine Below.setCell ?_ (by first | omega | (simp; done) | (simp; omega)) _))
  · have h3' : ((f.nodes.length : Int) == 0) = false := by rw [beq_eq_false_iff_ne]; omega
    go_enter Tryd.func49, Tryd.ntmps49
    go_wp2_with (first
      | (go_at_call 70; refine (span_yes _ _ _ (by omega) (by omega)).mono ?_; rintro e w2 ⟨rfl, rfl⟩)
      | (go_at_call 69; refine (fault_calls _ _ _).mono ?_; rintro e w2 ⟨rfl, rfl⟩))
    go_ret
    refine CheckPost.fault (w := w) (p := (2, -1)) (by decide) ?_ (by simp)
    exact (by repeat (first | assumption | exact Below.refl _ _ | refine below_drewN ?_ _ | refine Below.drew ?_ | refine Below.alloc ?_ (by first | omega | (simp; done) | (simp; omega)) _ | refine Below.setCell ?_ (by first | omega | (simp; done) | (simp; omega)) _))
end Go.Proofs.YtagkobkmaigfcaaDoor
