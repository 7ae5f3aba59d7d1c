/- How flows lie in memory: lists of integers, nodes, flows, bytes, as predicates on a world; kept while old blocks stand. -/
import Derived.Test.YtagkobkmaigfcaaDoorChecked
import Derived.WalkKit
import Derived.WalkLawsBesides
import Derived.WalkSpells
import Derived.Outline
import Derived.BigQuiet
import Derived.Deep.QuietTactic
import Derived.Deep.Draws
import Derived.RegionTactic
import Derived.ChangeAlike
import Derived.Below
import Derived.Lib.Hide
import Derived.WalkSmall
import Derived.Laws.OwnMore
import Derived.Laws.Rows
import Derived.Test.YtagkobkmaigfcaaDoorPCheck
namespace Go.Proofs.YtagkobkmaigfcaaDoor
open Go Go.RowKit

theorem ret_int {k : IntKind} {a b : Int} (h : a = b) : Ending.returned (.int k a) = .returned (.int k b) := by rw [h]

def i64 (x : Int) : Prop := -9223372036854775808 ≤ x ∧ x ≤ 9223372036854775807

/-- all blocks below B stand as they did -/
def Same (B : Nat) (w w' : World) : Prop := ∀ k, k < B → w'.heap[k]? = w.heap[k]?

theorem Same.cell {B : Nat} {w w' : World} (h : Same B w w') {b o : Nat} (hb : b < B) : w'.cell? ⟨b, o, none⟩ = w.cell? ⟨b, o, none⟩ := World.cell?_of_block (w := w) (h b hb)
theorem Same.refl (B : Nat) (w : World) : Same B w w := fun _ _ => rfl
theorem Same.trans {B : Nat} {a b c : World} (h : Same B a b) (k : Same B b c) : Same B a c := fun i hi => (k i hi).trans (h i hi)
theorem Same.mono {B B' : Nat} {w w' : World} (h : Same B w w') (hB : B' ≤ B) : Same B' w w' := fun k hk => h k (Nat.lt_of_lt_of_le hk hB)
theorem _root_.Go.RowKit.Below.to_same {B : Nat} {w w' : World} (h : Below B w w') : Same B w w' := h.block

/-- a slice of integers: '.slice A l.length c' -/
structure IntsAt (w : World) (B : Nat) (A : Option Addr) (c : Nat) (l : List Int) : Prop where
  rng : ∀ x ∈ l, i64 x
  len : l.length ≤ c
  cap : c ≤ 9223372036854775807
  cells : 0 < l.length → ∃ b off, A = some ⟨b, off, none⟩ ∧ b < B ∧ ∀ i x, l[i]? = some x → w.cell? ⟨b, off + i, none⟩ = some (.int .i64 x)

/-- a node, in seven cells -/
structure NodeAt (w : World) (B b off : Nat) (n : FK.Node) : Prop where
  c0 : w.cell? ⟨b, off, none⟩ = some (.int .i64 n.budget)
  c1 : w.cell? ⟨b, off + 1, none⟩ = some (.int .i64 n.close)
  c2 : w.cell? ⟨b, off + 2, none⟩ = some (.int .i64 n.beat)
  c3 : w.cell? ⟨b, off + 3, none⟩ = some (.int .i64 n.base)
  c4 : w.cell? ⟨b, off + 4, none⟩ = some (.int .i64 n.cap)
  c5 : w.cell? ⟨b, off + 5, none⟩ = some (.int .i64 n.jitter)
  c6 : ∃ A c, w.cell? ⟨b, off + 6, none⟩ = some (.slice A n.after.length c) ∧ IntsAt w B A c n.after
  rng : i64 n.budget ∧ i64 n.close ∧ i64 n.beat ∧ i64 n.base ∧ i64 n.cap ∧ i64 n.jitter

/-- a slice of nodes: '.slice A l.length c' -/
structure NodesAt (w : World) (B : Nat) (A : Option Addr) (c : Nat) (l : List FK.Node) : Prop where
  len : l.length ≤ c
  cap : c ≤ 9223372036854775807
  cells : 0 < l.length → ∃ b off, A = some ⟨b, off, none⟩ ∧ b < B ∧ ∀ i n, l[i]? = some n → NodeAt w B b (off + i * 7) n

section
variable {w w' : World} {B B' : Nat} {A : Option Addr} {c : Nat}
theorem IntsAt.keep {l : List Int} (h : IntsAt w B A c l) (s : Same B w w') : IntsAt w' B A c l := by
  obtain ⟨h0, h1, h2, h3⟩ := h
  refine ⟨h0, h1, h2, fun hl => ?_⟩
  obtain ⟨b, off, rfl, hb, hc⟩ := h3 hl
  exact ⟨b, off, rfl, hb, fun i x hx => by rw [s.cell hb]; exact hc i x hx⟩
theorem IntsAt.more {l : List Int} (h : IntsAt w B A c l) (hB : B ≤ B') : IntsAt w B' A c l := by
  obtain ⟨h0, h1, h2, h3⟩ := h
  refine ⟨h0, h1, h2, fun hl => ?_⟩
  obtain ⟨b, off, rfl, hb, hc⟩ := h3 hl
  exact ⟨b, off, rfl, by omega, hc⟩
theorem NodeAt.keep {b off : Nat} {n : FK.Node} (h : NodeAt w B b off n) (s : Same B w w') (hb : b < B) : NodeAt w' B b off n := by
  obtain ⟨c0, c1, c2, c3, c4, c5, ⟨A, c, hv, hi⟩, hr⟩ := h
  exact ⟨by rw [s.cell hb]; exact c0, by rw [s.cell hb]; exact c1, by rw [s.cell hb]; exact c2, by rw [s.cell hb]; exact c3, by rw [s.cell hb]; exact c4, by rw [s.cell hb]; exact c5, ⟨A, c, by rw [s.cell hb]; exact hv, hi.keep s⟩, hr⟩
theorem NodeAt.more {b off : Nat} {n : FK.Node} (h : NodeAt w B b off n) (hB : B ≤ B') : NodeAt w B' b off n := by
  obtain ⟨c0, c1, c2, c3, c4, c5, ⟨A, c, hv, hi⟩, hr⟩ := h
  exact ⟨c0, c1, c2, c3, c4, c5, ⟨A, c, hv, hi.more hB⟩, hr⟩
theorem NodesAt.keep {l : List FK.Node} (h : NodesAt w B A c l) (s : Same B w w') : NodesAt w' B A c l := by
  obtain ⟨h1, h2, h3⟩ := h
  refine ⟨h1, h2, fun hl => ?_⟩
  obtain ⟨b, off, rfl, hb, hc⟩ := h3 hl
  exact ⟨b, off, rfl, hb, fun i x hx => (hc i x hx).keep s hb⟩
theorem NodesAt.more {l : List FK.Node} (h : NodesAt w B A c l) (hB : B ≤ B') : NodesAt w B' A c l := by
  obtain ⟨h1, h2, h3⟩ := h
  refine ⟨h1, h2, fun hl => ?_⟩
  obtain ⟨b, off, rfl, hb, hc⟩ := h3 hl
  exact ⟨b, off, rfl, by omega, fun i x hx => (hc i x hx).more hB⟩
end
end Go.Proofs.YtagkobkmaigfcaaDoor
