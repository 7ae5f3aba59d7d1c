/- Arguments that come in, opened: lists of integers, flows; and what the row of a law that answers true asks behind the call. -/
import Derived.Test.YtmeegfamopaljaaGreatDoorFiI
import Derived.Deep.Slices
import Derived.Lib.SmallJoins
import Derived.ProofKit
import Derived.OpenShut
import Derived.Test.YtmeegfamopaljaaGreatDoorCards
import Derived.Test.YtmeegfamopaljaaGreatDoorTie
import Derived.Test.YtmeegfamopaljaaGreatDoorFiL
import Derived.Deep.DeepHandedRow
import Derived.Lib.LaidTab
import Derived.LaidHandle
import Derived.Leaving
import Derived.Conc.Holds
import Derived.SevenTiedAt
namespace Go.Proofs.YtmeegfamopaljaaGreatDoor
open Go Go.RowKit Go.Deep Go.ChangeShapes Go.WideShapes
theorem addr_of_cell {w : World} {a : Addr} {v : Value} (h : w.cell? a = some v) : ∃ b off, a = ⟨b, off, none⟩ ∧ b < w.heap.size := by
  obtain ⟨b, off, spot⟩ := a
  unfold World.cell? at h
  split at h
  · rename_i c _ _ hc
    cases spot with
    | none => exact ⟨b, off, rfl, (Array.getElem?_eq_some_iff.1 hc).1⟩
    | some s => simp at h
  · cases h
theorem add_plain (b off n : Nat) : (⟨b, off, none⟩ : Addr).add n = ⟨b, off + n, none⟩ := by
  unfold Addr.add; split <;> simp_all
theorem i64_of_wf {n : Int} (h : (Lit.int .i64 n).wf = true) : i64 n := by
  have := bounds_i64 h
  exact ⟨this.1, by omega⟩
theorem cellsInt : Tryz.prog.cellsOf 3 = 1 := by kernel_rfl
theorem bytesInt : Tryz.prog.bytesOf 3 = 8 := by kernel_rfl
section
variable {H : Type} {enc : TypeId × Value → H} {w : World}
theorem open_intsAt {fuel : Nat} {v : Value} {y : DataW H × List MemPlace} (h : DataW.trod enc Tryz.prog w 0 (fun _ => true) true fuel 24 [v] = some y) :
    ∃ A c l, v = .slice A l.length c ∧ IntsAt w w.heap.size A c l ∧ (∀ R, (y.1.weights Tryz.prog 24).all (· ≤ R) = true → l.length * 8 ≤ R) := by
  rcases open_ints Tryz.underlying24 Tryz.underlying3 cellsInt h with ⟨hcs, hx⟩ | ⟨a, len, cap, zs, hcs, _, hl, hm, hz, hx, hcell, hwz⟩
  · simp at hcs; subst hcs
    exact ⟨none, 0, [], rfl, ⟨by simp, by simp, by simp, by simp⟩, fun R _ => by simp⟩
  · simp at hcs; subst hcs
    simp only [if_true] at hz
    have hlen : (zs.take len).length = len := by simp; omega
    refine ⟨some a, cap, zs.take len, by rw [hlen], ⟨fun x hx' => i64_of_wf (hwz x (List.mem_of_mem_take hx')), by omega, by unfold maxLen at hm; omega, fun h0 => ?_⟩, fun R hR => ?_⟩
    · obtain ⟨b, off, rfl, hb⟩ := addr_of_cell (hcell 0 (by omega))
      refine ⟨b, off, rfl, hb, fun i x hi => ?_⟩
      obtain ⟨hi1, hi2⟩ := List.getElem?_eq_some_iff.1 hi
      have := hcell i (by omega)
      rw [add_plain] at this
      rw [this]
      rw [List.getElem?_take] at hi
      split at hi
      · simp [List.getD, hi]
      · cases hi
    · rw [hx] at hR
      simp only [DataW.weights, Tryz.underlying24] at hR
      simp only [List.all_cons, Bool.and_eq_true, decide_eq_true_eq] at hR
      have h1 := hR.1
      rw [bytesInt] at h1
      have e1 : (lits (H := H) IntKind.i64 (zs.take len)).length = len := by simp [lits]; omega
      rw [e1] at h1
      rw [hlen]
      have := Nat.le_add_right len (lits (H := H) IntKind.i64 (zs.drop len)).length
      have := Nat.mul_le_mul_right 8 this
      omega
instance : Inhabited FK.Node := ⟨⟨0, 0, 0, 0, 0, 0, []⟩⟩
set_option maxRecDepth 100000 in
end
end Go.Proofs.YtmeegfamopaljaaGreatDoor

namespace Go.Proofs.YtmeegfamopaljaaGreatDoor
open Go Go.ChangeShapes Go.WideShapes Go.ChangeAt Go.RowKit Go.Deep Go.SL
theorem own : ownKnob Tryz.prog.godebug = none := by kernel_rfl
theorem gT64 : Tryz.prog.globalNamed "math/bits.deBruijn64tab" = some 2 := by kernel_rfl
theorem gT64type : (Tryz.prog.globals[2]?).map (·.type) = some 352 := by kernel_rfl
theorem laidOut : laidOutB Tryz.prog = true := by kernel_rfl
theorem gErr : Tryz.prog.globalNamed "errors.errorType" = some 0 := by kernel_rfl
theorem rtypeIs : (Tryz.prog.cutTypes.find? (·.1 == "internal/reflectlite.rtype")).map (·.2) = some 314 := by kernel_rfl
theorem oneRow : ((List.range Tryz.prog.types.size).filter fun t => Tryz.prog.rowNamed t [101, 114, 114, 111, 114]) = [109] := by kernel_rfl
abbrev laidD : List (String × DataW Unit) := [("math/bits.deBruijn32tab", Rows.laid_math_bits_deBruijn32tab), ("math/bits.deBruijn64tab", Rows.laid_math_bits_deBruijn64tab), ("internal/strconv.uint64pow10", Rows.laid_internal_strconv_uint64pow10), ("strconv.ErrRange", Rows.laid_strconv_ErrRange), ("strconv.ErrSyntax", Rows.laid_strconv_ErrSyntax)]
abbrev laidE : List (String × DataW Unit) := [("math/bits.deBruijn32tab", Rows.laid_math_bits_deBruijn32tab), ("math/bits.deBruijn64tab", Rows.laid_math_bits_deBruijn64tab), ("internal/strconv.uint64pow10", Rows.laid_internal_strconv_uint64pow10), ("errors.errorType", Rows.laid_errors_errorType), ("strconv.ErrRange", Rows.laid_strconv_ErrRange), ("strconv.ErrSyntax", Rows.laid_strconv_ErrSyntax)]
theorem laid_parts {W : World} (h : laidMetH Tryz.prog laidE W) : laidMet Tryz.prog laidD W ∧ handlesMet Tryz.prog [("errors.errorType", Rows.laid_errors_errorType)] W := h
theorem tab_of {W : World} (h' : laidMet Tryz.prog laidD W) : Tab W := by
  obtain ⟨ps, ⟨g', t', cs', fuel', p', q', _, _, _, _, hrest, _⟩, _⟩ := h'
  obtain ⟨g, t, cs, fuel, p, q, hg, ht, hvar, hd, _, _⟩ := hrest
  obtain rfl := Option.some.inj (gT64.symm.trans hg)
  obtain rfl := Option.some.inj (gT64type.symm.trans ht)
  have hdat : (Rows.laid_math_bits_deBruijn64tab : DataW Unit) = Lib.tabData .u8 (Lib.deBruijn64tab.map fun n : Nat => (n : Int)) := by rfl
  rw [hdat] at hd
  have hcs := Lib.cells_of_tab Tryz.underlying352 Tryz.underlying5 (by kernel_rfl) (by kernel_rfl) hd
  have ht : Lib.TabIs Tryz.prog W "math/bits.deBruijn64tab" .u8 (Lib.deBruijn64tab.map fun n : Nat => (n : Int)) := by
    unfold Lib.TabIs
    rw [hvar, ← hcs]
  intro j hj
  have := ht.cell gT64 j (by simpa using hj)
  rw [this]
  simp [List.getD, hj]
theorem handle_of {W : World} (h' : handlesMet Tryz.prog [("errors.errorType", Rows.laid_errors_errorType)] W) : W.cell? ⟨0, 0, none⟩ = some (.iface 314 (.agg #[.pointer (some ⟨Tryz.prog.globals.size, 109, none⟩)])) := by
  obtain ⟨name, u, ty, e1, e2, e3, e4, e5⟩ := h' _ (List.mem_singleton.2 rfl)
  have en : name = [101, 114, 114, 111, 114] := (Option.some.inj e1).symm
  subst en
  obtain rfl := Option.some.inj (rtypeIs.symm.trans e2)
  have hm : ty ∈ (List.range Tryz.prog.types.size).filter fun t => Tryz.prog.rowNamed t [101, 114, 114, 111, 114] := List.mem_filter.2 ⟨List.mem_range.2 e3, e4⟩
  rw [oneRow] at hm
  obtain rfl := List.mem_singleton.1 hm
  have hh : typeHandle Tryz.prog 109 = .pointer (some ⟨Tryz.prog.globals.size, 109, none⟩) := by kernel_rfl
  rw [hh] at e5
  simpa using World.var?_cell gErr e5 0
noncomputable def envOf (W : World) : Env := ⟨W.os, W.tape, W.output, (match W.heap[2]? with | some o => [(2, o)] | none => []) ++ (match W.heap[0]? with | some o => [(0, o)] | none => [])⟩
theorem envOf_is (W : World) : (envOf W).is W := by
  refine ⟨rfl, rfl, rfl, fun p hp => ?_⟩
  unfold envOf at hp
  simp only [List.mem_append] at hp
  rcases hp with hp | hp
  · split at hp
    · rename_i o ho
      simp at hp; subst hp; exact ho
    · cases hp
  · split at hp
    · rename_i o ho
      simp at hp; subst hp; exact ho
    · cases hp
theorem envOf_tab {W w : World} (h : (envOf W).is w) {b o : Nat} {v : Value} (hb : b = 2 ∨ b = 0) (hv : W.cell? ⟨b, o, none⟩ = some v) : w.cell? ⟨b, o, none⟩ = some v := by
  have hlt := World.block_lt_of_cell? _ _ hv
  obtain ⟨ob, hob⟩ : ∃ ob, W.heap[b]? = some ob := ⟨_, Array.getElem?_eq_getElem hlt⟩
  have hm : (b, ob) ∈ (envOf W).fixed := by
    unfold envOf
    simp only [List.mem_append]
    rcases hb with rfl | rfl
    · left; rw [hob]; simp
    · right; rw [hob]; simp
  have := h.fixed _ hm
  simp only at this
  rw [← hv]
  simp only [World.cell?, this, hob]
theorem good_of {W : World} (h : laidMetH Tryz.prog laidE W) : Good (envOf W) := by
  obtain ⟨h1, h2⟩ := laid_parts h
  exact ⟨fun w hw j hj => envOf_tab hw (.inl rfl) (tab_of h1 j hj), fun w hw => envOf_tab hw (.inr rfl) (handle_of h2)⟩
theorem Gives.run {f : FuncId} {args : Array Value} {φ : World → Prop} {R : Value → List HP → Prop} (h : Gives Tryz.prog Good f args φ R) {W : World} (hL : laidMetH Tryz.prog laidE W) (hφ : φ W) : Calls Tryz.prog f args W fun e W' => ∃ v m, e = .returned v ∧ R v m ∧ Below W.heap.size W W' :=
  (h (envOf W) W (good_of hL) (envOf_is W) hφ).mono fun e w' ⟨v, m, he, hR, hh⟩ => ⟨v, m, he, hR, by
    have hs : Sel (SL.old (envOf W) W) (m ++ [SL.old (envOf W) W]) (m ++ []) := Sel.app' m
    exact hh.old hs (envOf_is W)⟩
where
  Sel.app' : ∀ (m : List HP) {p : HP}, Sel p (m ++ [p]) (m ++ [])
  | [], _ => .head
  | _ :: m, _ => .tail (Sel.app' m)
def lay64 : Obj → Obj
  | .cells _ t frozen => .cells #[.int .u8 0, .int .u8 1, .int .u8 56, .int .u8 2, .int .u8 57, .int .u8 49, .int .u8 28, .int .u8 3, .int .u8 61, .int .u8 58, .int .u8 42, .int .u8 50, .int .u8 38, .int .u8 29, .int .u8 17, .int .u8 4, .int .u8 62, .int .u8 47, .int .u8 59, .int .u8 36, .int .u8 45, .int .u8 43, .int .u8 51, .int .u8 22, .int .u8 53, .int .u8 39, .int .u8 33, .int .u8 30, .int .u8 24, .int .u8 18, .int .u8 12, .int .u8 5, .int .u8 63, .int .u8 55, .int .u8 48, .int .u8 27, .int .u8 60, .int .u8 41, .int .u8 37, .int .u8 16, .int .u8 46, .int .u8 35, .int .u8 44, .int .u8 21, .int .u8 52, .int .u8 32, .int .u8 23, .int .u8 11, .int .u8 54, .int .u8 26, .int .u8 40, .int .u8 15, .int .u8 34, .int .u8 20, .int .u8 31, .int .u8 10, .int .u8 25, .int .u8 14, .int .u8 19, .int .u8 9, .int .u8 13, .int .u8 8, .int .u8 7, .int .u8 6] t frozen
  | o => o
def lay32 : Obj → Obj
  | .cells _ t frozen => .cells #[.int .u8 0, .int .u8 1, .int .u8 28, .int .u8 2, .int .u8 29, .int .u8 14, .int .u8 24, .int .u8 3, .int .u8 30, .int .u8 22, .int .u8 20, .int .u8 15, .int .u8 25, .int .u8 17, .int .u8 4, .int .u8 8, .int .u8 31, .int .u8 27, .int .u8 13, .int .u8 23, .int .u8 21, .int .u8 19, .int .u8 16, .int .u8 7, .int .u8 26, .int .u8 12, .int .u8 18, .int .u8 6, .int .u8 11, .int .u8 5, .int .u8 10, .int .u8 9] t frozen
  | o => o
noncomputable def layErr : Obj → Obj
  | .cells _ t frozen => .cells #[.iface 314 (.agg #[.pointer (some ⟨Tryz.prog.globals.size, 109, none⟩)])] t frozen
  | o => o
def layPow : Obj → Obj
  | .cells _ t frozen => .cells #[.int .u64 1, .int .u64 10, .int .u64 100, .int .u64 1000, .int .u64 10000, .int .u64 100000, .int .u64 1000000, .int .u64 10000000, .int .u64 100000000, .int .u64 1000000000, .int .u64 10000000000, .int .u64 100000000000, .int .u64 1000000000000, .int .u64 10000000000000, .int .u64 100000000000000, .int .u64 1000000000000000, .int .u64 10000000000000000, .int .u64 100000000000000000, .int .u64 1000000000000000000, .int .u64 10000000000000000000] t frozen
  | o => o
abbrev rngS : ByteArray := { data := #[118, 97, 108, 117, 101, 32, 111, 117, 116, 32, 111, 102, 32, 114, 97, 110, 103, 101] }
abbrev synS : ByteArray := { data := #[105, 110, 118, 97, 108, 105, 100, 32, 115, 121, 110, 116, 97, 120] }
noncomputable def low : Nat := (World.holding Tryz.prog default ⟨#[], #[], []⟩).heap.size
noncomputable def laySent (b : Nat) : Obj → Obj
  | .cells _ t frozen => .cells #[.iface 408 (.pointer (some ⟨b, 0, none⟩))] t frozen
  | o => o
noncomputable def laidWorld (os : Os) : World :=
  let w0 := World.holding Tryz.prog os ⟨#[.cells #[.string rngS] 410, .cells #[.string synS] 410], #[], []⟩
  { w0 with heap := (((((w0.heap.modify 2 lay64).modify 1 lay32).modify 0 layErr).modify 5 layPow).modify 4 (laySent low)).modify 3 (laySent (low + 1)) }
theorem laid_met (os : Os) (args : Array Value) (hm : laidMet Tryz.prog laidD ((laidWorld os).forCall (fun _ _ => 0) ⟨#[], args, []⟩).memory) (hh : ([("errors.errorType", (Rows.laid_errors_errorType : DataW Unit))].all (handleAtB Tryz.prog ((laidWorld os).forCall (fun _ _ => 0) ⟨#[], args, []⟩).memory)) = true) :
    laidMetH Tryz.prog laidE ((laidWorld os).forCall (fun _ _ => 0) ⟨#[], args, []⟩).memory :=
  laidMetH_of_parts hm hh
theorem leaving_of_handed {a : Assume} {C : Checked} {os : Os} {f : FuncId} {r : Reach} {Pre : World → Array Value → Prop} {Post : World → Array Value → Value → World → Prop} (h : ReturnsInHanded a C os f r Pre Post) : ReturnsInLeavingWide a C os f r Pre Post :=
  fun enter => ReturnsInOpen.mono (fun _ _ _ x => ⟨x.2.1, onlyLeaving_of_quiet x.1, x.2.2⟩) (fun _ x => x) (h enter)
theorem holds_tied_goes (Lk : Looks) {p : Pinned} {s : OpenSpec} {c : OpenClaim} (kinds : List LaidKind) (tests : Bool) (har : Bool × String) (lk : Bool)
    (hc : c.holds p s) (hw : c.wfByText s = true) (htie : c.laidByTextAt Lk p kinds tests)
    (hst : c.start = .entering) (hnb : c.noBlocks = false ∧ c.again = false) (hm : p.checked.prog.mainIs = some (har.1, har.2.toList)) (hn : (!har.1 && har.2.isEmpty && !lk) = false)
    (hl : ∀ f fn, p.checked.prog.funcNamed c.func = some f → p.checked.prog.funcs[f]? = some fn → lk = p.checked.prog.looks [] ∧ ∀ (j : Nat) t, fn.params[j]? = some t → p.checked.prog.wantsStandIn t = false)
    (hg : true = c.goesBy p.checked.prog) :
    Claim7.holds p (.plain s) { stood := { row := c, standIns := [], harness := har, looks := lk }, kinds := [], alts := [], goes := true, laidByText := true, laidKinds := kinds, laidTests := tests, laidLooks := Lk } := by
  have h6 : ∀ r : OpenClaim, Claim7.isSixth { stood := { row := r, standIns := [], harness := har, looks := lk }, kinds := [] } = false := fun r => by simpa [Claim7.isSixth] using hn
  exact ⟨Claim7.tied_new_at Lk kinds tests (Claim7.new_of_sixth hc har lk hst hnb hm (h6 c) hl) hw, (fun D hD => by cases hD), htie, (fun h => by cases h), hg⟩
set_option maxRecDepth 100000 in
theorem open_list {H : Type} {enc : TypeId × Value → H} {w : World} {r : Reach} {b0 : Nat} {v : Value} {d : DataW H} {p : List MemPlace} (hv : Value.okWide Tryz.prog w r b0 24 v) (h : DataW.Trod enc Tryz.prog w 0 (fun _ => true) true 24 v d p) :
    ∃ A c l, v = .slice A l.length c ∧ IntsAt w w.heap.size A c l := by
  obtain ⟨fuel, hf⟩ := h
  obtain ⟨a, n, k, rfl⟩ := okWide_slice Tryz.underlying24 hv
  have hc : (Value.slice a n k).cells.toList = [.slice a n k] := by simp [Value.cells]
  rw [hc] at hf
  obtain ⟨A, c, l, h1, h2, _⟩ := open_intsAt hf
  exact ⟨A, c, l, h1, h2⟩
end Go.Proofs.YtmeegfamopaljaaGreatDoor

namespace Go.Proofs.YtmeegfamopaljaaGreatDoor
open Go
theorem rowsMapped : mapsRowed Tryz.prog = true := by kernel_rfl
theorem keysPlain : (false == Tryz.prog.plainKeys) = true := by kernel_rfl
theorem stopsAreHeard : Tryz.prog.stopsHeard = true := by kernel_rfl
theorem enterMay : Tryz.prog.mayEnter = true := by kernel_rfl
theorem liftsAre : (Rows.fifoRow.lifted == Tryz.prog.liftsFinal) = true := by kernel_rfl
theorem makeIs : (Tryz.prog.make == some Rows.fifoRow.make) = true := by kernel_rfl
theorem joined_of {P : Program} {f : FuncId} {fn : Func} {s : ChangeSpec} {c : OpenClaim}
    (h1 : (c.wf (OpenSpec.ofChange s)) = true)
    (h2 : (laidOutB P) = true)
    (h3 : (mapsRowed P) = true)
    (h4 : (fn.params.all (P.readableRec ·)) = true)
    (h5 : (namedTie P c.named s.vars) = true)
    (h6 : ((c.stops == [])) = true)
    (h7 : ((P.stops == [])) = true)
    (h8 : ((c.knobs == [])) = true)
    (h9 : ((P.stopKnobs == [])) = true)
    (h10 : ((c.inPlace == P.inPlace f)) = true)
    (h11 : ((c.unfollowed == P.unfollowed f)) = true)
    (h12 : ((c.recurses == P.recurses f)) = true)
    (h13 : ((c.named == P.varsNamed f)) = true)
    (h14 : ((c.maps == (fn.params.toList ++ s.plain.varTypes P).any (P.mapsRec ·))) = true)
    (h15 : ((c.ifaces == (fn.params.toList ++ s.plain.varTypes P).any (P.ifacesRec ·))) = true)
    (h16 : ((c.mapsOut == P.mapsAmong fn.resultTypes.toList)) = true)
    (h17 : ((c.loops == (fn.params.toList ++ s.plain.varTypes P).any (P.loopsFrom ·))) = true)
    (h18 : ((c.wideKeys == (fn.params.toList ++ s.plain.varTypes P ++ fn.resultTypes.toList).any (P.wideKeysFrom ·))) = true)
    (h19 : (s.vars.all (P.varReadable ·)) = true)
    (h20 : (fn.resultTypes.all (fun t => P.readableRec t && decide (t < P.types.size))) = true)
    (h21 : ((c.ifacesOut == fn.resultTypes.toList.any (P.ifacesRec ·))) = true)
    (h22 : ((c.loopsOut == fn.resultTypes.toList.any (P.loopsFrom ·))) = true)
    (h23 : ((c.plainKeys == P.plainKeys)) = true)
    (h24 : (c.shortTexts.isNone) = true)
    (h25 : (P.stopsHeard) = true)
    (h26 : (P.mayEnter) = true)
    (h27 : ((c.lifted == P.liftsFinal)) = true)
    (h28 : ((P.make == some c.make)) = true)
    (h29 : ((c.kinds == (if c.domain.isEmpty then [] else fn.params.toList.map fun t => match P.underlying t with | some (.int k) => some k | _ => none))) = true)
    (h30 : ((c.pinned == c.pinnedBy)) = true)
    (h31 : ((c.veiled == (fn.params.toList ++ s.plain.varTypes P ++ fn.resultTypes.toList).any (P.veiledRec ·))) = true)
    (h32 : (c.veiledFits P fn.params.toList (fn.params.toList ++ s.plain.varTypes P ++ fn.resultTypes.toList)) = true) : joinedFacts P f fn s c = true := by
  unfold joinedFacts
  simp only [Bool.and_eq_true]
  exact ⟨⟨⟨⟨⟨⟨⟨⟨⟨⟨⟨⟨⟨⟨⟨⟨⟨⟨⟨⟨⟨⟨⟨⟨⟨⟨⟨⟨⟨⟨⟨h1, h2⟩, h3⟩, h4⟩, h5⟩, h6⟩, h7⟩, h8⟩, h9⟩, h10⟩, h11⟩, h12⟩, h13⟩, h14⟩, h15⟩, h16⟩, h17⟩, h18⟩, h19⟩, h20⟩, h21⟩, h22⟩, h23⟩, h24⟩, h25⟩, h26⟩, h27⟩, h28⟩, h29⟩, h30⟩, h31⟩, h32⟩
end Go.Proofs.YtmeegfamopaljaaGreatDoor
