/- What the rows' lists give a walk: the library's tables, and the handle of the type 'error'; the fixed objects; a world that meets the lists. -/
import Derived.Test.YtagkobkmaigfcaaDoorCards
import Derived.Test.YtagkobkmaigfcaaDoorTie
import Derived.Test.YtagkobkmaigfcaaDoorErrF
import Derived.Test.YtagkobkmaigfcaaDoorOpen
import Derived.Test.YtagkobkmaigfcaaDoorSlOld
import Derived.Deep.DeepHandedRow
import Derived.Lib.LaidTab
import Derived.LaidHandle
namespace Go.Proofs.YtagkobkmaigfcaaDoor
open Go Go.ChangeShapes Go.WideShapes Go.ChangeAt Go.RowKit Go.Deep Go.SL

theorem own : ownKnob Tryd.prog.godebug = none := by kernel_rfl
theorem gT64 : Tryd.prog.globalNamed "math/bits.deBruijn64tab" = some 1 := by kernel_rfl
theorem gT64type : (Tryd.prog.globals[1]?).map (·.type) = some 189 := by kernel_rfl
theorem laidOut : laidOutB Tryd.prog = true := by kernel_rfl
theorem gErr : Tryd.prog.globalNamed "errors.errorType" = some 0 := by kernel_rfl
theorem rtypeIs : (Tryd.prog.cutTypes.find? (·.1 == "internal/reflectlite.rtype")).map (·.2) = some 172 := by kernel_rfl
theorem oneRow : ((List.range Tryd.prog.types.size).filter fun t => Tryd.prog.rowNamed t [101, 114, 114, 111, 114]) = [71] := by kernel_rfl

theorem laid_parts {W : World} (h : laidMetH Tryd.prog Rows.codedRow.laid W) : laidMet Tryd.prog [("math/bits.deBruijn32tab", Rows.laid_math_bits_deBruijn32tab), ("math/bits.deBruijn64tab", Rows.laid_math_bits_deBruijn64tab)] W ∧ handlesMet Tryd.prog [("errors.errorType", Rows.laid_errors_errorType)] W := h

/-- the library's table lies where its initialiser lays it -/
theorem tab_of {W : World} (h' : laidMet Tryd.prog [("math/bits.deBruijn32tab", Rows.laid_math_bits_deBruijn32tab), ("math/bits.deBruijn64tab", Rows.laid_math_bits_deBruijn64tab)] W) : Tab W := by
  obtain ⟨ps, ⟨g', t', cs', fuel', p', q', _, _, _, _, hrest, _⟩, _⟩ := h'
  obtain ⟨g, t, cs, fuel, p, q, hg, ht, hvar, hd, _, _⟩ := hrest
  obtain rfl := Option.some.inj (gT64.symm.trans hg)
  obtain rfl := Option.some.inj (gT64type.symm.trans ht)
  have hdat : (Rows.laid_math_bits_deBruijn64tab : DataW Unit) = Lib.tabData .u8 (Lib.deBruijn64tab.map fun n : Nat => (n : Int)) := by rfl
  rw [hdat] at hd
  have hcs := Lib.cells_of_tab Tryd.underlying189 Tryd.underlying5 (by kernel_rfl) (by kernel_rfl) hd
  have ht : Lib.TabIs Tryd.prog W "math/bits.deBruijn64tab" .u8 (Lib.deBruijn64tab.map fun n : Nat => (n : Int)) := by
    unfold Lib.TabIs
    rw [hvar, ← hcs]
  intro j hj
  have := ht.cell gT64 j (by simpa using hj)
  rw [this]
  simp [List.getD, hj]

/-- the variable's one cell -/
theorem handle_of {W : World} (h' : handlesMet Tryd.prog [("errors.errorType", Rows.laid_errors_errorType)] W) : W.cell? ⟨0, 0, none⟩ = some (.iface 172 (.agg #[.pointer (some ⟨Tryd.prog.globals.size, 71, none⟩)])) := by
  obtain ⟨name, u, ty, e1, e2, e3, e4, e5⟩ := h' _ (List.mem_singleton.2 rfl)
  have en : name = [101, 114, 114, 111, 114] := (Option.some.inj e1).symm
  subst en
  obtain rfl := Option.some.inj (rtypeIs.symm.trans e2)
  have hm : ty ∈ (List.range Tryd.prog.types.size).filter fun t => Tryd.prog.rowNamed t [101, 114, 114, 111, 114] := List.mem_filter.2 ⟨List.mem_range.2 e3, e4⟩
  rw [oneRow] at hm
  obtain rfl := List.mem_singleton.1 hm
  have hh : typeHandle Tryd.prog 71 = .pointer (some ⟨Tryd.prog.globals.size, 71, none⟩) := by kernel_rfl
  rw [hh] at e5
  simpa using World.var?_cell gErr e5 0

/-- the streams of a world, and the library's tables fixed -/
noncomputable def envOf (W : World) : Env := ⟨W.os, W.tape, W.output, (match W.heap[1]? with | some o => [(1, o)] | none => []) ++ (match W.heap[0]? with | some o => [(0, o)] | none => [])⟩
theorem envOf_is (W : World) : (envOf W).is W := by
  refine ⟨rfl, rfl, rfl, fun p hp => ?_⟩
  unfold envOf at hp
  simp only [List.mem_append] at hp
  rcases hp with hp | hp
  · split at hp
    · rename_i o ho
      simp at hp; subst hp; exact ho
    · cases hp
  · split at hp
    · rename_i o ho
      simp at hp; subst hp; exact ho
    · cases hp

theorem envOf_tab {W w : World} (h : (envOf W).is w) {b o : Nat} {v : Value} (hb : b = 1 ∨ b = 0) (hv : W.cell? ⟨b, o, none⟩ = some v) : w.cell? ⟨b, o, none⟩ = some v := by
  have hlt := World.block_lt_of_cell? _ _ hv
  obtain ⟨ob, hob⟩ : ∃ ob, W.heap[b]? = some ob := ⟨_, Array.getElem?_eq_getElem hlt⟩
  have hm : (b, ob) ∈ (envOf W).fixed := by
    unfold envOf
    simp only [List.mem_append]
    rcases hb with rfl | rfl
    · left; rw [hob]; simp
    · right; rw [hob]; simp
  have := h.fixed _ hm
  simp only at this
  rw [← hv]
  simp only [World.cell?, this, hob]

theorem good_of {W : World} (h : laidMetH Tryd.prog Rows.codedRow.laid W) : Good (envOf W) := by
  obtain ⟨h1, h2⟩ := laid_parts h
  exact ⟨fun w hw j hj => envOf_tab hw (.inl rfl) (tab_of h1 j hj), fun w hw => envOf_tab hw (.inr rfl) (handle_of h2)⟩

/-- a reader's contract, at a world with the lists met -/
theorem Gives.run {f : FuncId} {args : Array Value} {φ : World → Prop} {R : Value → List HP → Prop} (h : Gives Tryd.prog Good f args φ R) {W : World} (hL : laidMetH Tryd.prog Rows.codedRow.laid W) (hφ : φ W) : Calls Tryd.prog f args W fun e W' => ∃ v m, e = .returned v ∧ R v m ∧ Below W.heap.size W W' :=
  (h (envOf W) W (good_of hL) (envOf_is W) hφ).mono fun e w' ⟨v, m, he, hR, hh⟩ => ⟨v, m, he, hR, by
    have hs : Sel (SL.old (envOf W) W) (m ++ [SL.old (envOf W) W]) (m ++ []) := Sel.app' m
    exact hh.old hs (envOf_is W)⟩
where
  Sel.app' : ∀ (m : List HP) {p : HP}, Sel p (m ++ [p]) (m ++ [])
  | [], _ => .head
  | _ :: m, _ => .tail (Sel.app' m)

/-- what the tables hold in the witness's world -/
def lay64 : Obj → Obj
  | .cells _ t frozen => .cells #[.int .u8 0, .int .u8 1, .int .u8 56, .int .u8 2, .int .u8 57, .int .u8 49, .int .u8 28, .int .u8 3, .int .u8 61, .int .u8 58, .int .u8 42, .int .u8 50, .int .u8 38, .int .u8 29, .int .u8 17, .int .u8 4, .int .u8 62, .int .u8 47, .int .u8 59, .int .u8 36, .int .u8 45, .int .u8 43, .int .u8 51, .int .u8 22, .int .u8 53, .int .u8 39, .int .u8 33, .int .u8 30, .int .u8 24, .int .u8 18, .int .u8 12, .int .u8 5, .int .u8 63, .int .u8 55, .int .u8 48, .int .u8 27, .int .u8 60, .int .u8 41, .int .u8 37, .int .u8 16, .int .u8 46, .int .u8 35, .int .u8 44, .int .u8 21, .int .u8 52, .int .u8 32, .int .u8 23, .int .u8 11, .int .u8 54, .int .u8 26, .int .u8 40, .int .u8 15, .int .u8 34, .int .u8 20, .int .u8 31, .int .u8 10, .int .u8 25, .int .u8 14, .int .u8 19, .int .u8 9, .int .u8 13, .int .u8 8, .int .u8 7, .int .u8 6] t frozen
  | o => o
def lay32 : Obj → Obj
  | .cells _ t frozen => .cells #[.int .u8 0, .int .u8 1, .int .u8 28, .int .u8 2, .int .u8 29, .int .u8 14, .int .u8 24, .int .u8 3, .int .u8 30, .int .u8 22, .int .u8 20, .int .u8 15, .int .u8 25, .int .u8 17, .int .u8 4, .int .u8 8, .int .u8 31, .int .u8 27, .int .u8 13, .int .u8 23, .int .u8 21, .int .u8 19, .int .u8 16, .int .u8 7, .int .u8 26, .int .u8 12, .int .u8 18, .int .u8 6, .int .u8 11, .int .u8 5, .int .u8 10, .int .u8 9] t frozen
  | o => o
noncomputable def layErr : Obj → Obj
  | .cells _ t frozen => .cells #[.iface 172 (.agg #[.pointer (some ⟨Tryd.prog.globals.size, 71, none⟩)])] t frozen
  | o => o
noncomputable def laidWorld (os : Os) : World :=
  { World.holding Tryd.prog os ⟨#[], #[], []⟩ with heap := (((World.holding Tryd.prog os ⟨#[], #[], []⟩).heap.modify 1 lay64).modify 2 lay32).modify 0 layErr }
theorem laid_met (os : Os) (args : Array Value) (hm : laidMet Tryd.prog [("math/bits.deBruijn32tab", Rows.laid_math_bits_deBruijn32tab), ("math/bits.deBruijn64tab", Rows.laid_math_bits_deBruijn64tab)] ((laidWorld os).forCall (fun _ _ => 0) ⟨#[], args, []⟩).memory) (hh : ([("errors.errorType", (Rows.laid_errors_errorType : DataW Unit))].all (handleAtB Tryd.prog ((laidWorld os).forCall (fun _ _ => 0) ⟨#[], args, []⟩).memory)) = true) :
    laidMetH Tryd.prog Rows.codedRow.laid ((laidWorld os).forCall (fun _ _ => 0) ⟨#[], args, []⟩).memory :=
  laidMetH_of_parts hm hh
end Go.Proofs.YtagkobkmaigfcaaDoor
