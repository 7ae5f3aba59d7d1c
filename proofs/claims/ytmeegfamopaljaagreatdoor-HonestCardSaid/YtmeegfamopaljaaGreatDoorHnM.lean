/- Arguments that come in, opened: lists of integers, flows; and what the row of a law that answers true asks behind the call. -/
import Derived.Test.YtmeegfamopaljaaGreatDoorHnD
import Derived.Deep.Slices
import Derived.Lib.SmallJoins
import Derived.ProofKit
import Derived.OpenShut
import Derived.Test.YtmeegfamopaljaaGreatDoorCards
import Derived.Test.YtmeegfamopaljaaGreatDoorTie
import Derived.Test.YtmeegfamopaljaaGreatDoorHnE
import Derived.Deep.DeepHandedRow
import Derived.Lib.LaidTab
import Derived.LaidHandle
import Derived.LaidSub
import Derived.Stop.LaidErr
import Derived.Leaving
import Derived.Conc.Holds
import Derived.SevenTiedAt
import Derived.Test.YtmeegfamopaljaaGreatDoorHnL
namespace Go.Proofs.YtmeegfamopaljaaGreatDoor
open Go Go.RowKit Go.Deep Go.ChangeShapes Go.WideShapes
theorem jz {w : World} {a : Addr} {v : Value} (h : w.cell? a = some v) : ∃ b off, a = ⟨b, off, none⟩ ∧ b < w.heap.size := by
 obtain ⟨b, off, spot⟩ := a
 unfold World.cell? at h
 split at h
 · rename_i c _ _ hc
   cases spot with
   | none => exact ⟨b, off, rfl, (Array.getElem?_eq_some_iff.1 hc).1⟩
   | some s => simp at h
 · cases h
theorem add_plain (b off n : Nat) : (⟨b, off, none⟩ : Addr).add n = ⟨b, off + n, none⟩ := by
 unfold Addr.add; split <;> simp_all
theorem gR {n : Int} (h : (Lit.int .i64 n).wf = true) : i64 n := by
 have := bounds_i64 h
 exact ⟨this.1, by omega⟩
theorem lz : Tryz.prog.cellsOf 3 = 1 := by kernel_rfl
theorem zY : Tryz.prog.bytesOf 3 = 8 := by kernel_rfl
section
variable {H : Type} {enc : TypeId × Value → H} {w : World}
theorem sH {fuel : Nat} {v : Value} {y : DataW H × List MemPlace} (h : DataW.trod enc Tryz.prog w 0 (fun _ => true) true fuel 24 [v] = some y) :
 ∃ A c l, v = .slice A l.length c ∧ IntsAt w w.heap.size A c l ∧ (∀ R, (y.1.weights Tryz.prog 24).all (· ≤ R) = true → l.length * 8 ≤ R) := by
 rcases open_ints Tryz.underlying24 Tryz.underlying3 lz h with ⟨hcs, hx⟩ | ⟨a, len, cap, zs, hcs, _, hl, hm, hz, hx, hcell, hwz⟩
 · simp at hcs; subst hcs
   exact ⟨none, 0, [], rfl, ⟨by simp, by simp, by simp, by simp⟩, fun R _ => by simp⟩
 · simp at hcs; subst hcs
   simp only [if_true] at hz
   have hlen : (zs.take len).length = len := by simp; omega
   refine ⟨some a, cap, zs.take len, by rw [hlen], ⟨fun x hx' => gR (hwz x (List.mem_of_mem_take hx')), by omega, by unfold maxLen at hm; omega, fun h0 => ?_⟩, fun R hR => ?_⟩
   · obtain ⟨b, off, rfl, hb⟩ := jz (hcell 0 (by omega))
     refine ⟨b, off, rfl, hb, fun i x hi => ?_⟩
     obtain ⟨hi1, hi2⟩ := List.getElem?_eq_some_iff.1 hi
     have := hcell i (by omega)
     rw [add_plain] at this
     rw [this]
     rw [List.getElem?_take] at hi
     split at hi
     · simp [List.getD, hi]
     · cases hi
   · rw [hx] at hR
     simp only [DataW.weights, Tryz.underlying24] at hR
     simp only [List.all_cons, Bool.and_eq_true, decide_eq_true_eq] at hR
     have h1 := hR.1
     rw [zY] at h1
     have e1 : (lits (H := H) IntKind.i64 (zs.take len)).length = len := by simp [lits]; omega
     rw [e1] at h1
     rw [hlen]
     have := Nat.le_add_right len (lits (H := H) IntKind.i64 (zs.drop len)).length
     have := Nat.mul_le_mul_right 8 this
     omega
instance : Inhabited FK.Node := ⟨⟨0, 0, 0, 0, 0, 0, []⟩⟩
set_option maxRecDepth 100000 in
end
open Go Go.ChangeShapes Go.WideShapes Go.ChangeAt Go.RowKit Go.Deep Go.SL
theorem own : ownKnob Tryz.prog.godebug = none := by kernel_rfl
theorem gT64 : Tryz.prog.globalNamed "math/bits.deBruijn64tab" = some 2 := by kernel_rfl
theorem gT64type : (Tryz.prog.globals[2]?).map (·.type) = some 352 := by kernel_rfl
theorem nb : laidOutB Tryz.prog = true := by kernel_rfl
theorem gErr : Tryz.prog.globalNamed "errors.errorType" = some 0 := by kernel_rfl
theorem rtypeIs : (Tryz.prog.cutTypes.find? (·.1 == "internal/reflectlite.rtype")).map (·.2) = some 314 := by kernel_rfl
theorem Ce : ((List.range Tryz.prog.types.size).filter fun t => Tryz.prog.rowNamed t [101, 114, 114, 111, 114]) = [109] := by kernel_rfl
abbrev x8 : List (String × DataW Unit) := [("math/bits.deBruijn32tab", Rows.laid_math_bits_deBruijn32tab), ("math/bits.deBruijn64tab", Rows.laid_math_bits_deBruijn64tab), ("internal/strconv.uint64pow10", Rows.laid_internal_strconv_uint64pow10), ("strconv.ErrRange", Rows.laid_strconv_ErrRange), ("strconv.ErrSyntax", Rows.laid_strconv_ErrSyntax)]
abbrev ph : List (String × DataW Unit) := [("math/bits.deBruijn32tab", Rows.laid_math_bits_deBruijn32tab), ("math/bits.deBruijn64tab", Rows.laid_math_bits_deBruijn64tab), ("internal/strconv.uint64pow10", Rows.laid_internal_strconv_uint64pow10), ("errors.errorType", Rows.laid_errors_errorType), ("strconv.ErrRange", Rows.laid_strconv_ErrRange), ("strconv.ErrSyntax", Rows.laid_strconv_ErrSyntax)]
theorem kQ {W : World} (h : laidMetH Tryz.prog ph W) : laidMet Tryz.prog x8 W ∧ handlesMet Tryz.prog [("errors.errorType", Rows.laid_errors_errorType)] W := h
theorem BX {W : World} (h' : laidMet Tryz.prog x8 W) : Tab W := by
 obtain ⟨ps, ⟨g', t', cs', fuel', p', q', _, _, _, _, hrest, _⟩, _⟩ := h'
 obtain ⟨g, t, cs, fuel, p, q, hg, ht, hvar, hd, _, _⟩ := hrest
 obtain rfl := Option.some.inj (gT64.symm.trans hg)
 obtain rfl := Option.some.inj (gT64type.symm.trans ht)
 have hdat : (Rows.laid_math_bits_deBruijn64tab : DataW Unit) = Lib.tabData .u8 (Lib.deBruijn64tab.map fun n : Nat => (n : Int)) := by rfl
 rw [hdat] at hd
 have hcs := Lib.cells_of_tab Tryz.underlying352 Tryz.underlying5 (by kernel_rfl) (by kernel_rfl) hd
 have ht : Lib.TabIs Tryz.prog W "math/bits.deBruijn64tab" .u8 (Lib.deBruijn64tab.map fun n : Nat => (n : Int)) := by
  unfold Lib.TabIs
  rw [hvar, ← hcs]
 intro j hj
 have := ht.cell gT64 j (by simpa using hj)
 rw [this]
 simp [List.getD, hj]
theorem xm {W : World} (h' : handlesMet Tryz.prog [("errors.errorType", Rows.laid_errors_errorType)] W) : W.cell? ⟨0, 0, none⟩ = some (.iface 314 (.agg #[.pointer (some ⟨Tryz.prog.globals.size, 109, none⟩)])) := by
 obtain ⟨name, u, ty, e1, e2, e3, e4, e5⟩ := h' _ (List.mem_singleton.2 rfl)
 have en : name = [101, 114, 114, 111, 114] := (Option.some.inj e1).symm
 subst en
 obtain rfl := Option.some.inj (rtypeIs.symm.trans e2)
 have hm : ty ∈ (List.range Tryz.prog.types.size).filter fun t => Tryz.prog.rowNamed t [101, 114, 114, 111, 114] := List.mem_filter.2 ⟨List.mem_range.2 e3, e4⟩
 rw [Ce] at hm
 obtain rfl := List.mem_singleton.1 hm
 have hh : typeHandle Tryz.prog 109 = .pointer (some ⟨Tryz.prog.globals.size, 109, none⟩) := by kernel_rfl
 rw [hh] at e5
 simpa using World.var?_cell gErr e5 0
theorem gPow : Tryz.prog.globalNamed "internal/strconv.uint64pow10" = some 5 := by kernel_rfl
theorem gPowType : (Tryz.prog.globals[5]?).map (·.type) = some 423 := by kernel_rfl
theorem gSyn : Tryz.prog.globalNamed "strconv.ErrSyntax" = some 3 := by kernel_rfl
theorem zE : (Tryz.prog.globals[3]?).map (·.type) = some 109 := by kernel_rfl
theorem _root_.Go.laidMet.head1 {P : Program} {x : String × DataW Unit} {r : List (String × DataW Unit)} {w : World} (h : laidMet P (x :: r) w) : laidMet P [x] w := by
 obtain ⟨ps, hv, cN, hrows⟩ := h
 obtain ⟨n, d⟩ := x
 obtain ⟨g, t, cs, fuel, p, q, h1, h2, h3, h4, hq, rfl⟩ := hv
 have hsub : (MemPlace.row ⟨g, 0, none⟩ cs.size ++ p ++ []).Sublist (MemPlace.row ⟨g, 0, none⟩ cs.size ++ p ++ q) := by
  rw [List.append_nil]
  exact List.sublist_append_left _ _
 exact ⟨MemPlace.row ⟨g, 0, none⟩ cs.size ++ p ++ [], ⟨g, t, cs, fuel, p, [], h1, h2, h3, h4, rfl, rfl⟩, List.Nodup.sublist hsub cN, fun b off hm => hrows b off (hsub.subset hm)⟩
theorem yZ {W : World} (h : laidMetH Tryz.prog ph W) : laidMet Tryz.prog [("internal/strconv.uint64pow10", Rows.laid_internal_strconv_uint64pow10)] W :=
 (kQ h).1.tail.tail.head1
theorem yK {W : World} (h : laidMetH Tryz.prog ph W) : laidMet Tryz.prog [("strconv.ErrSyntax", Rows.laid_strconv_ErrSyntax)] W :=
 (kQ h).1.tail.tail.tail.tail
theorem Cb {W : World} (h' : laidMet Tryz.prog [("internal/strconv.uint64pow10", Rows.laid_internal_strconv_uint64pow10)] W) : Lib.TabIs Tryz.prog W "internal/strconv.uint64pow10" .u64 Lib.pow10Tab := by
 obtain ⟨ps, hrest, _⟩ := h'
 obtain ⟨g, t, cs, fuel, p, q, hg, ht, hvar, hd, _, _⟩ := hrest
 obtain rfl := Option.some.inj (gPow.symm.trans hg)
 obtain rfl := Option.some.inj (gPowType.symm.trans ht)
 have hdat : (Rows.laid_internal_strconv_uint64pow10 : DataW Unit) = Lib.tabData .u64 Lib.pow10Tab := by rfl
 rw [hdat] at hd
 have hcs := Lib.cells_of_tab Tryz.underlying423 Tryz.underlying51 (by kernel_rfl) (by kernel_rfl) hd
 unfold Lib.TabIs
 rw [hvar, ← hcs]
theorem B2 {W : World} (h : laidMet Tryz.prog [("strconv.ErrSyntax", Rows.laid_strconv_ErrSyntax)] W) : ∃ t p, W.cell? ⟨3, 0, none⟩ = some (.iface t p) := by
 have rowS : ∀ u, Tryz.prog.typeName? 3 u = some "*errors.errorString" → u = 408 := fun u h => typeName_ptr_named (nm := "errors.errorString") (by rw [show "*" ++ "errors.errorString" = "*errors.errorString" by decide]; kernel_rfl) (by kernel_rfl) (by decide) u (by rw [show "*" ++ "errors.errorString" = "*errors.errorString" by decide]; exact h)
 obtain ⟨a0, s0, hv0, -, -, -⟩ := laid_sentinel h gSyn zE Tryz.underlying109 rowS Tryz.underlying408 Tryz.underlying410 rfl rfl Tryz.underlying9 (by kernel_rfl) (by kernel_rfl)
 exact ⟨_, _, by have h0 := World.var?_cell gSyn hv0 0; simpa using h0⟩
abbrev fixedAt : List Nat := [2, 0, 3, 5]
section
variable {W w : World}
noncomputable def jH (W : World) : Env := ⟨W.os, W.tape, W.output, fixedAt.filterMap fun g => (W.heap[g]?).map fun o => (g, o)⟩
theorem rS (W : World) : (jH W).is W := by
 refine ⟨rfl, rfl, rfl, fun p hp => ?_⟩
 unfold jH at hp
 obtain ⟨g, _, hg⟩ := List.mem_filterMap.1 hp
 cases ho : W.heap[g]? with
 | none => rw [ho] at hg; cases hg
 | some o =>
  rw [ho] at hg
  injection hg with hg
  subst hg
  exact ho
theorem oG (h : (jH W).is w) {b : Nat} (hb : b ∈ fixedAt) (hlt : b < W.heap.size) : w.heap[b]? = W.heap[b]? := by
 obtain ⟨ob, hob⟩ : ∃ ob, W.heap[b]? = some ob := ⟨_, Array.getElem?_eq_getElem hlt⟩
 have hm : (b, ob) ∈ (jH W).fixed := by
  unfold jH
  exact List.mem_filterMap.2 ⟨b, hb, by rw [hob]; rfl⟩
 have := h.fixed _ hm
 simp only at this
 rw [this, hob]
theorem l9 (h : (jH W).is w) {b o : Nat} {v : Value} (hb : b ∈ fixedAt) (hv : W.cell? ⟨b, o, none⟩ = some v) : w.cell? ⟨b, o, none⟩ = some v := by
 have := oG h hb (World.block_lt_of_cell? _ _ hv)
 rw [← hv]
 simp only [World.cell?, this]
theorem tj (h : (jH W).is w) {n : String} {k : IntKind} {zs : List Int} {g : Nat} (hg : Tryz.prog.globalNamed n = some g) (hb : g ∈ fixedAt) (hv : Lib.TabIs Tryz.prog W n k zs) : Lib.TabIs Tryz.prog w n k zs := by
 unfold Lib.TabIs World.var? at hv ⊢
 rw [hg] at hv ⊢
 simp only [Option.bind_some] at hv ⊢
 have hlt : g < W.heap.size := by
  refine Nat.lt_of_not_le fun hle => ?_
  rw [Array.getElem?_eq_none hle] at hv
  cases hv
 rw [oG h hb hlt]
 exact hv
theorem Bb (h : laidMetH Tryz.prog ph W) : Good (jH W) := by
 obtain ⟨h1, h2⟩ := kQ h
 obtain ⟨t, p, hs⟩ := B2 (yK h)
 exact ⟨fun w hw j hj => l9 hw (by decide) (BX h1 j hj), fun w hw => l9 hw (by decide) (xm h2), fun w hw => ⟨t, p, l9 hw (by decide) hs⟩, fun w hw => tj hw gPow (by decide) (Cb (yZ h))⟩
theorem Gives.run {f : FuncId} {args : Array Value} {φ : World → Prop} {R : Value → List HP → Prop} (h : Gives Tryz.prog Good f args φ R) (hL : laidMetH Tryz.prog ph W) (hφ : φ W) : Calls Tryz.prog f args W fun e W' => ∃ v m, e = .returned v ∧ R v m ∧ Below W.heap.size W W' :=
 (h (jH W) W (Bb hL) (rS W) hφ).mono fun e w' ⟨v, m, he, hR, hh⟩ => ⟨v, m, he, hR, by
  have hs : Sel (SL.old (jH W) W) (m ++ [SL.old (jH W) W]) (m ++ []) := Sel.app' m
  exact hh.old hs (rS W)⟩
where
 Sel.app' : ∀ (m : List HP) {p : HP}, Sel p (m ++ [p]) (m ++ [])
 | [], _ => .head
 | _ :: m, _ => .tail (Sel.app' m)
def lay64 : Obj → Obj
 | .cells _ t frozen => .cells #[.int .u8 0, .int .u8 1, .int .u8 56, .int .u8 2, .int .u8 57, .int .u8 49, .int .u8 28, .int .u8 3, .int .u8 61, .int .u8 58, .int .u8 42, .int .u8 50, .int .u8 38, .int .u8 29, .int .u8 17, .int .u8 4, .int .u8 62, .int .u8 47, .int .u8 59, .int .u8 36, .int .u8 45, .int .u8 43, .int .u8 51, .int .u8 22, .int .u8 53, .int .u8 39, .int .u8 33, .int .u8 30, .int .u8 24, .int .u8 18, .int .u8 12, .int .u8 5, .int .u8 63, .int .u8 55, .int .u8 48, .int .u8 27, .int .u8 60, .int .u8 41, .int .u8 37, .int .u8 16, .int .u8 46, .int .u8 35, .int .u8 44, .int .u8 21, .int .u8 52, .int .u8 32, .int .u8 23, .int .u8 11, .int .u8 54, .int .u8 26, .int .u8 40, .int .u8 15, .int .u8 34, .int .u8 20, .int .u8 31, .int .u8 10, .int .u8 25, .int .u8 14, .int .u8 19, .int .u8 9, .int .u8 13, .int .u8 8, .int .u8 7, .int .u8 6] t frozen
 | o => o
def lay32 : Obj → Obj
 | .cells _ t frozen => .cells #[.int .u8 0, .int .u8 1, .int .u8 28, .int .u8 2, .int .u8 29, .int .u8 14, .int .u8 24, .int .u8 3, .int .u8 30, .int .u8 22, .int .u8 20, .int .u8 15, .int .u8 25, .int .u8 17, .int .u8 4, .int .u8 8, .int .u8 31, .int .u8 27, .int .u8 13, .int .u8 23, .int .u8 21, .int .u8 19, .int .u8 16, .int .u8 7, .int .u8 26, .int .u8 12, .int .u8 18, .int .u8 6, .int .u8 11, .int .u8 5, .int .u8 10, .int .u8 9] t frozen
 | o => o
noncomputable def Ck : Obj → Obj
 | .cells _ t frozen => .cells #[.iface 314 (.agg #[.pointer (some ⟨Tryz.prog.globals.size, 109, none⟩)])] t frozen
 | o => o
def Cj : Obj → Obj
 | .cells _ t frozen => .cells #[.int .u64 1, .int .u64 10, .int .u64 100, .int .u64 1000, .int .u64 10000, .int .u64 100000, .int .u64 1000000, .int .u64 10000000, .int .u64 100000000, .int .u64 1000000000, .int .u64 10000000000, .int .u64 100000000000, .int .u64 1000000000000, .int .u64 10000000000000, .int .u64 100000000000000, .int .u64 1000000000000000, .int .u64 10000000000000000, .int .u64 100000000000000000, .int .u64 1000000000000000000, .int .u64 10000000000000000000] t frozen
 | o => o
end
abbrev rngS : ByteArray := { data := #[118, 97, 108, 117, 101, 32, 111, 117, 116, 32, 111, 102, 32, 114, 97, 110, 103, 101] }
abbrev synS : ByteArray := { data := #[105, 110, 118, 97, 108, 105, 100, 32, 115, 121, 110, 116, 97, 120] }
noncomputable def low : Nat := (World.holding Tryz.prog default ⟨#[], #[], []⟩).heap.size
noncomputable def vH (b : Nat) : Obj → Obj
 | .cells _ t frozen => .cells #[.iface 408 (.pointer (some ⟨b, 0, none⟩))] t frozen
 | o => o
noncomputable def gQ (os : Os) : World :=
 let w0 := World.holding Tryz.prog os ⟨#[.cells #[.string rngS] 410, .cells #[.string synS] 410], #[], []⟩
 { w0 with heap := (((((w0.heap.modify 2 lay64).modify 1 lay32).modify 0 Ck).modify 5 Cj).modify 4 (vH low)).modify 3 (vH (low + 1)) }
theorem zv (os : Os) (args : Array Value) (hm : laidMet Tryz.prog x8 ((gQ os).forCall (fun _ _ => 0) ⟨#[], args, []⟩).memory) (hh : ([("errors.errorType", (Rows.laid_errors_errorType : DataW Unit))].all (handleAtB Tryz.prog ((gQ os).forCall (fun _ _ => 0) ⟨#[], args, []⟩).memory)) = true) :
 laidMetH Tryz.prog ph ((gQ os).forCall (fun _ _ => 0) ⟨#[], args, []⟩).memory :=
 laidMetH_of_parts hm hh
theorem lK {a : Assume} {C : Checked} {os : Os} {f : FuncId} {r : Reach} {Pre : World → Array Value → Prop} {Post : World → Array Value → Value → World → Prop} (h : ReturnsInHanded a C os f r Pre Post) : ReturnsInLeavingWide a C os f r Pre Post :=
 fun enter => ReturnsInOpen.mono (fun _ _ _ x => ⟨x.2.1, onlyLeaving_of_quiet x.1, x.2.2⟩) (fun _ x => x) (h enter)
theorem mW (Lk : Looks) {p : Pinned} {s : OpenSpec} {c : OpenClaim} (kinds : List LaidKind) (tests : Bool) (har : Bool × String) (lk : Bool)
 (hc : c.holds p s) (hw : c.wfByText s = true) (htie : c.laidByTextAt Lk p kinds tests)
 (hst : c.start = .entering) (hnb : c.noBlocks = false ∧ c.again = false) (hm : p.checked.prog.mainIs = some (har.1, har.2.toList)) (hn : (!har.1 && har.2.isEmpty && !lk) = false)
 (hl : ∀ f fn, p.checked.prog.funcNamed c.func = some f → p.checked.prog.funcs[f]? = some fn → lk = p.checked.prog.looks [] ∧ ∀ (j : Nat) t, fn.params[j]? = some t → p.checked.prog.wantsStandIn t = false)
 (hg : true = c.goesBy p.checked.prog) :
 Claim7.holds p (.plain s) { stood := { row := c, standIns := [], harness := har, looks := lk }, kinds := [], alts := [], goes := true, laidByText := true, laidKinds := kinds, laidTests := tests, laidLooks := Lk } := by
 have h6 : ∀ r : OpenClaim, Claim7.isSixth { stood := { row := r, standIns := [], harness := har, looks := lk }, kinds := [] } = false := fun r => by simpa [Claim7.isSixth] using hn
 exact ⟨Claim7.tied_new_at Lk kinds tests (Claim7.new_of_sixth hc har lk hst hnb hm (h6 c) hl) hw, (fun D hD => by cases hD), htie, (fun h => by cases h), hg⟩
set_option maxRecDepth 100000 in
theorem pA {H : Type} {enc : TypeId × Value → H} {w : World} {r : Reach} {b0 : Nat} {v : Value} {d : DataW H} {p : List MemPlace} (hv : Value.okWide Tryz.prog w r b0 24 v) (h : DataW.Trod enc Tryz.prog w 0 (fun _ => true) true 24 v d p) :
 ∃ A c l, v = .slice A l.length c ∧ IntsAt w w.heap.size A c l := by
 obtain ⟨fuel, hf⟩ := h
 obtain ⟨a, n, k, rfl⟩ := okWide_slice Tryz.underlying24 hv
 have hc : (Value.slice a n k).cells.toList = [.slice a n k] := by simp [Value.cells]
 rw [hc] at hf
 obtain ⟨A, c, l, h1, h2, _⟩ := sH hf
 exact ⟨A, c, l, h1, h2⟩
open Go Go.RowKit Go.Deep Go.ChangeShapes Go.WideShapes Go.ChangeAt Go.SL
theorem vU : Tryz.prog.cellsOf 36 = 3 := by kernel_rfl
theorem yJ : Tryz.prog.underlying 26 = some (.slice 36) := Tryz.underlying26
instance : Inhabited FK.Ev := ⟨⟨0, 0, 0⟩⟩
theorem BE {α : Type} {l : List α} (h : l.length = 3) : ∃ a b c, l = [a, b, c] := by
 match l, h with
 | [a, b, c], _ => exact ⟨a, b, c, rfl⟩
section
variable {H : Type} {enc : TypeId × Value → H} {w : World}
theorem AJ {fuel : Nat} {cs : List Value} {y : DataW H × List MemPlace} (h : DataW.trod enc Tryz.prog w 0 (fun _ => true) true fuel 36 cs = some y) :
 ∃ x : FK.Ev, (i64 x.kind ∧ i64 x.n ∧ i64 x.kept) ∧ cs = evL x := by
 obtain ⟨xs, n, _, hy, hlen, hxl, hg⟩ := DataW.trod_struct Tryz.underlying36 h
 obtain ⟨v0, v1, v2, rfl⟩ := BE (hlen.trans vU)
 obtain ⟨y0, y1, y2, rfl⟩ := BE (l := xs) hxl
 have g0 : DataW.trod enc Tryz.prog w 0 (fun _ => true) true n 3 [v0] = some y0 := by have := hg 0 _ rfl; simpa [lz] using this
 have g1 : DataW.trod enc Tryz.prog w 0 (fun _ => true) true n 3 [v1] = some y1 := by have := hg 1 _ rfl; simpa [lz] using this
 have g2 : DataW.trod enc Tryz.prog w 0 (fun _ => true) true n 3 [v2] = some y2 := by have := hg 2 _ rfl; simpa [lz] using this
 obtain ⟨a0, e0, _, w0⟩ := DataW.trod_int Tryz.underlying3 g0
 obtain ⟨a1, e1, _, w1⟩ := DataW.trod_int Tryz.underlying3 g1
 obtain ⟨a2, e2, _, w2⟩ := DataW.trod_int Tryz.underlying3 g2
 simp only [List.cons.injEq, and_true] at e0 e1 e2
 subst e0 e1 e2
 exact ⟨⟨a0, a1, a2⟩, ⟨gR w0, gR w1, gR w2⟩, rfl⟩
theorem uq {fuel : Nat} {v : Value} {y : DataW H × List MemPlace} (h : DataW.trod enc Tryz.prog w 0 (fun _ => true) true fuel 26 [v] = some y) :
 ∃ A c l, v = .slice A l.length c ∧ EvsAt w w.heap.size A c l := by
 rcases open_slice yJ h with ⟨hcs, hx⟩ | ⟨a, len, cap, m, n, D, Pl, hcs, _, hl, hm, hmm, hx, hi⟩
 · simp at hcs; subst hcs
   exact ⟨none, 0, [], rfl, ⟨by simp, by simp, by simp, by simp⟩⟩
 · simp at hcs; subst hcs
   simp only [if_true] at hmm
   subst hmm
   rw [vU] at hi
   have hev : ∀ i, i < len → ∃ x : FK.Ev, (i64 x.kind ∧ i64 x.n ∧ i64 x.kept) ∧ ∃ b off, a = ⟨b, off, none⟩ ∧ b < w.heap.size ∧ ∀ j u, (evL x)[j]? = some u → w.cell? ⟨b, off + i * 3 + j, none⟩ = some u := by
    intro i hil
    obtain ⟨cs', h1, h2⟩ := hi i (by omega)
    obtain ⟨_, hl3, hat⟩ := World.cells?_some h1
    have h0 := hat 0 (by omega)
    have hv : cs'[0]? = some (cs'[0]'(by omega)) := List.getElem?_eq_getElem _
    rw [hv, add_add] at h0
    obtain ⟨b', off', hab, hb'⟩ := jz h0
    have hspot : ∃ b off, a = ⟨b, off, none⟩ := by
     obtain ⟨cs0, h10, _⟩ := hi 0 (by omega)
     obtain ⟨_, hl', hat'⟩ := World.cells?_some h10
     have h00 := hat' 0 (by omega)
     rw [add_add] at h00
     have e : a.add (0 * 3 + 0) = a := by simp [Addr.add]
     rw [e, List.getElem?_eq_getElem (by omega)] at h00
     obtain ⟨b, off, e, _⟩ := jz h00
     exact ⟨b, off, e⟩
    obtain ⟨b, off, rfl⟩ := hspot
    have hbb : b < w.heap.size := by
     rw [add_plain] at hab
     injection hab with e1 _ _
     omega
    obtain ⟨x, hx1, rfl⟩ := AJ h2
    refine ⟨x, hx1, b, off, rfl, hbb, fun j u hu => ?_⟩
    have hj : j < 3 := by have := (List.getElem?_eq_some_iff.1 hu).1; simpa using this
    have := hat j hj
    rw [add_add, add_plain] at this
    rw [Nat.add_assoc, this]
    exact hu
   obtain ⟨V, hV⟩ := choose_lt hev
   have hlen : ((List.range len).map V).length = len := by simp
   have hget : ∀ i n, ((List.range len).map V)[i]? = some n → i < len ∧ n = V i := fun i n hn => by
    obtain ⟨h1, h2⟩ := List.getElem?_eq_some_iff.1 hn
    simp at h1 h2
    exact ⟨h1, h2.symm⟩
   refine ⟨some a, m, (List.range len).map V, by rw [hlen], ⟨fun x hx => ?_, by omega, by unfold maxLen at hm; omega, fun h0 => ?_⟩⟩
   · obtain ⟨i, hi'⟩ := List.getElem?_of_mem hx
     obtain ⟨h1, rfl⟩ := hget i x hi'
     exact (hV i h1).1
   · obtain ⟨_, b, off, rfl, hb, _⟩ := hV 0 (by omega)
     refine ⟨b, off, rfl, hb, fun i n hn => ?_⟩
     obtain ⟨h1, rfl⟩ := hget i n hn
     obtain ⟨_, b', off', e, _, cN⟩ := hV i h1
     injection e with e1 e2 _
     subst e1 e2
     exact cN
end
set_option maxRecDepth 100000 in
theorem y6 {H : Type} {enc : TypeId × Value → H} {w : World} {r : Reach} {b0 : Nat} {v : Value} {d : DataW H} {p : List MemPlace} (hv : Value.okWide Tryz.prog w r b0 26 v) (h : DataW.Trod enc Tryz.prog w 0 (fun _ => true) true 26 v d p) :
 ∃ A c l, v = .slice A l.length c ∧ EvsAt w w.heap.size A c l := by
 obtain ⟨fuel, hf⟩ := h
 obtain ⟨a, n, k, rfl⟩ := okWide_slice Tryz.underlying26 hv
 have hc : (Value.slice a n k).cells.toList = [.slice a n k] := by simp [Value.cells]
 rw [hc] at hf
 exact uq hf
open Go
theorem ug : mapsRowed Tryz.prog = true := by kernel_rfl
theorem xf : (false == Tryz.prog.plainKeys) = true := by kernel_rfl
theorem oR : Tryz.prog.stopsHeard = true := by kernel_rfl
theorem zN : Tryz.prog.mayEnter = true := by kernel_rfl
theorem zq : (Rows.fifoRow.lifted == Tryz.prog.liftsFinal) = true := by kernel_rfl
theorem Ci : (Tryz.prog.make == some Rows.fifoRow.make) = true := by kernel_rfl
theorem xj {P : Program} {f : FuncId} {fn : Func} {s : ChangeSpec} {c : OpenClaim}
 (h1 : (c.wf (OpenSpec.ofChange s)) = true)
 (h2 : (laidOutB P) = true)
 (h3 : (mapsRowed P) = true)
 (h4 : (fn.params.all (P.readableRec ·)) = true)
 (h5 : (namedTie P c.named s.vars) = true)
 (h6 : ((c.stops == [])) = true)
 (h7 : ((P.stops == [])) = true)
 (h8 : ((c.knobs == [])) = true)
 (h9 : ((P.stopKnobs == [])) = true)
 (h10 : ((c.inPlace == P.inPlace f)) = true)
 (h11 : ((c.unfollowed == P.unfollowed f)) = true)
 (h12 : ((c.recurses == P.recurses f)) = true)
 (h13 : ((c.named == P.varsNamed f)) = true)
 (h14 : ((c.maps == (fn.params.toList ++ s.plain.varTypes P).any (P.mapsRec ·))) = true)
 (h15 : ((c.ifaces == (fn.params.toList ++ s.plain.varTypes P).any (P.ifacesRec ·))) = true)
 (h16 : ((c.mapsOut == P.mapsAmong fn.resultTypes.toList)) = true)
 (h17 : ((c.loops == (fn.params.toList ++ s.plain.varTypes P).any (P.loopsFrom ·))) = true)
 (h18 : ((c.wideKeys == (fn.params.toList ++ s.plain.varTypes P ++ fn.resultTypes.toList).any (P.wideKeysFrom ·))) = true)
 (h19 : (s.vars.all (P.varReadable ·)) = true)
 (h20 : (fn.resultTypes.all (fun t => P.readableRec t && decide (t < P.types.size))) = true)
 (h21 : ((c.ifacesOut == fn.resultTypes.toList.any (P.ifacesRec ·))) = true)
 (h22 : ((c.loopsOut == fn.resultTypes.toList.any (P.loopsFrom ·))) = true)
 (h23 : ((c.plainKeys == P.plainKeys)) = true)
 (h24 : (c.shortTexts.isNone) = true)
 (h25 : (P.stopsHeard) = true)
 (h26 : (P.mayEnter) = true)
 (h27 : ((c.lifted == P.liftsFinal)) = true)
 (h28 : ((P.make == some c.make)) = true)
 (h29 : ((c.kinds == (if c.domain.isEmpty then [] else fn.params.toList.map fun t => match P.underlying t with | some (.int k) => some k | _ => none))) = true)
 (h30 : ((c.pinned == c.pinnedBy)) = true)
 (h31 : ((c.veiled == (fn.params.toList ++ s.plain.varTypes P ++ fn.resultTypes.toList).any (P.veiledRec ·))) = true)
 (h32 : (c.veiledFits P fn.params.toList (fn.params.toList ++ s.plain.varTypes P ++ fn.resultTypes.toList)) = true) : joinedFacts P f fn s c = true := by
 unfold joinedFacts
 simp only [Bool.and_eq_true]
 exact ⟨⟨⟨⟨⟨⟨⟨⟨⟨⟨⟨⟨⟨⟨⟨⟨⟨⟨⟨⟨⟨⟨⟨⟨⟨⟨⟨⟨⟨⟨⟨h1, h2⟩, h3⟩, h4⟩, h5⟩, h6⟩, h7⟩, h8⟩, h9⟩, h10⟩, h11⟩, h12⟩, h13⟩, h14⟩, h15⟩, h16⟩, h17⟩, h18⟩, h19⟩, h20⟩, h21⟩, h22⟩, h23⟩, h24⟩, h25⟩, h26⟩, h27⟩, h28⟩, h29⟩, h30⟩, h31⟩, h32⟩
end Go.Proofs.YtmeegfamopaljaaGreatDoor
