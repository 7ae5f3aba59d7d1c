/- Operations behind guards of either word ('a && b', 'a || b'): words that stay open. -/
import Derived.Test.YtagkobkmaigfcaaDoorSlR
namespace Go.SL
open Go Go.RowKit
section
variable {P : Program} {E : Env} {n : Nat} {D : List Deferred} {ts : List (Nat × Value)} {l : List HP} {ops : Array Oper} {Q : Exit → Act → World → Prop} {rest : List Oper} {i : Nat} {ty : TypeId} {pos : String} {af : Array Edge}

/-- what a guarded operation leaves -/
def gv (k : Bool) (v : Value) : Value := if k then v else undef

/-- a word, by a name of its own -/
theorem L.bool {op : Op} {d : Bool} {φ : World → Prop} (hi : Nat.blt i n = true) (hev : Ev P ts op (.bool d) φ) (hφ : ∀ w, Holds E w l → φ w) (h : ∀ c : Bool, c = d → At E n D ((i, .bool c) :: ts) l (wpList P ops Q rest)) :
    At E n D ts l (wpList P ops Q (⟨some i, op, ty, pos, af, none⟩ :: rest)) := L.val hi hev hφ (h d rfl)

/-- what is known, as it hangs on a word -/
def AtT (E : Env) (n : Nat) (D : List Deferred) (T : Bool → List (Nat × Value)) (c : Bool) (l : List HP) (K : Act → World → Prop) : Prop := At E n D (T c) l K
theorem L.abs {T : Bool → List (Nat × Value)} {K : Act → World → Prop} (c : Bool) (hT : ts = T c) (h : AtT E n D T c l K) : At E n D ts l K := by
  subst hT
  exact h

/-- an operation behind a guard: it is run if the word c is b -/
theorem L.g {T : Bool → List (Nat × Value)} {c : Bool} {op : Op} {v : Value} {φ : World → Prop} {j t : Nat} {b : Bool} (hi : Nat.blt i n = true) (ht : (ops[j]?).bind (·.dst) = some t) (hv : ∀ c, look t (T c) = some (.bool c)) (hev : Ev P (T b) op v φ) (hφ : ∀ w, Holds E w l → φ w)
    (h : At E n D ((i, gv (c == b) v) :: T c) l (wpList P ops Q rest)) : AtT E n D T c l (wpList P ops Q (⟨some i, op, ty, pos, af, some (j, b)⟩ :: rest)) := by
  unfold AtT
  by_cases hc : c = b
  · subst hc
    refine L.on rfl ht (hv c) (L.vala hi hev hφ ?_)
    have : gv (c == c) v = v := by simp [gv]
    rwa [this] at h
  · have hcb : c = !b := by cases c <;> cases b <;> simp_all
    refine L.off rfl hi rfl ht (hv c) hcb ?_
    have : gv (c == b) v = undef := by simp [gv, hc]
    rwa [this] at h

/-- a cell written, by the model's own function -/
theorem o_extSet1 {g : Option (Nat × Bool)} {f : FuncId} {xs : List Operand} {at_ : Array TypeId} {args : List Value} {b j : Nat} {tb : TypeId} {cs : Array Value} {u v : Value} {r : List HP} {φ : World → Prop} {K : Act → World → Prop} [hh : Has b l (.cells cs tb) r] (hi : Nat.blt i n = true) (hx : evs ts xs = some args) (hφ : ∀ w, Holds E w l → φ w)
    (hr : ∀ w, φ w → w.heap[b]? = some (.cells cs tb) → (callFunc f args.toArray).run P w = .ok (.value u) (w.setCell ⟨b, j, none⟩ v))
    (h : At E n D ((i, u) :: ts) (blk b tb (cs.setIfInBounds j v) :: r) K) : At E n D ts l (fun a w => (Oper.mk (some i) (.call { callee := .value (.func f), args := xs.toArray, argTypes := at_ }) ty pos af g).wp P a w K Q) := fun a w ft hw => by
  have h1 := evs_eval ft.knows hx
  have : (execOp a.eval (Oper.mk (some i) (.call { callee := .value (.func f), args := xs.toArray, argTypes := at_ }) ty pos af g)).run P w = .ok (.value u) (w.setCell ⟨b, j, none⟩ v) := by
    simp [execOp, resolve, Deferred.ofValue, Act.eval, invoke, h1, hr w (hφ w hw) (hw.ob hh.sel).1]
  show (Oper.mk (some i) (.call { callee := .value (.func f), args := xs.toArray, argTypes := at_ }) ty pos af g).wp P a w K Q
  unfold Oper.wp
  rw [this]
  exact h _ _ (ft.put i (Nat.le_of_ble_eq_true hi) u) (hw.store hh.sel)

theorem ev_pickAnd {c x y : Operand} {b d : Bool} (hc : ev ts c = some (.bool b)) (hx : ev ts x = some (gv (b == true) (.bool d))) (hy : ev ts y = some (.bool false)) : Ev P ts (.pick c x y) (.bool (b && d)) Any := by
  have := ev_pick (P := P) hc hx hy
  cases b <;> exact this
theorem ev_pickOr {c x y : Operand} {b d : Bool} (hc : ev ts c = some (.bool b)) (hx : ev ts x = some (.bool true)) (hy : ev ts y = some (gv (b == false) (.bool d))) : Ev P ts (.pick c x y) (.bool (b || d)) Any := by
  have := ev_pick (P := P) hc hx hy
  cases b <;> exact this
end
end Go.SL
