/-
  The law Wheeled returns true: every call of a wheel answers as the document says, for every script and time. No condition beyond the row's own (the listed variables read as their initialisers lay them, tied to the program's text by the card).
-/
import Derived.Test.YtagkobkmaigfcaaDoorWdG
import Derived.Test.YtagkobkmaigfcaaDoorWdQ
import Derived.ChangeMaps5
namespace Go.Proofs.YtagkobkmaigfcaaDoor.wheeled
open Go Go.ChangeShapes Go.WideShapes Go.ChangeAt Go.RowKit Go.Deep Go.ChangeMaps

theorem cellsTurn : Tryd.prog.cellsOf 55 = 3 := by kernel_rfl
theorem cellsU64 : Tryd.prog.cellsOf 25 = 1 := by kernel_rfl
theorem underTurns : Tryd.prog.underlying 46 = some (.slice 55) := Tryd.underlying46

section
variable {H : Type} {enc : TypeId × Value → H} {w : World}
theorem list3 {α : Type} {l : List α} (h : l.length = 3) : ∃ a b c, l = [a, b, c] := by
  match l, h with
  | [a, b, c], _ => exact ⟨a, b, c, rfl⟩
theorem open_turn {fuel : Nat} {cs : List Value} {y : DataW H × List MemPlace} {b off : Nat} (h : DataW.trod enc Tryd.prog w 0 (fun _ => true) true fuel 55 cs = some y) (hc : ∀ j, j < 3 → w.cell? ⟨b, off + j, none⟩ = cs[j]?) :
    ∃ t : Int × Int × Nat, SL.RowIs b off [.int .i64 t.1, .int .i64 t.2.1, .int .u64 t.2.2] w ∧ t.2.2 < 18446744073709551616 := by
  obtain ⟨xs, n, _, hy, hlen, hxl, hg⟩ := DataW.trod_struct Tryd.underlying55 h
  obtain ⟨v0, v1, v2, rfl⟩ := list3 (hlen.trans cellsTurn)
  obtain ⟨y0, y1, y2, rfl⟩ := list3 (l := xs) hxl
  have g0 : DataW.trod enc Tryd.prog w 0 (fun _ => true) true n 3 [v0] = some y0 := by have := hg 0 _ rfl; simpa [cellsInt] using this
  have g1 : DataW.trod enc Tryd.prog w 0 (fun _ => true) true n 3 [v1] = some y1 := by have := hg 1 _ rfl; simpa [cellsInt] using this
  have g2 : DataW.trod enc Tryd.prog w 0 (fun _ => true) true n 25 [v2] = some y2 := by have := hg 2 _ rfl; simpa [cellsU64] using this
  obtain ⟨a0, e0, _, w0⟩ := DataW.trod_int Tryd.underlying3 g0
  obtain ⟨a1, e1, _, w1⟩ := DataW.trod_int Tryd.underlying3 g1
  obtain ⟨a2, e2, _, w2⟩ := DataW.trod_int Tryd.underlying25 g2
  simp only [List.cons.injEq, and_true] at e0 e1 e2
  subst e0 e1 e2
  have hb := bounds_u64 w2
  refine ⟨(a0, a1, a2.toNat), fun j v hj => ?_, by show a2.toNat < _; omega⟩
  have ha : ((a2.toNat : Nat) : Int) = a2 := by omega
  simp only [ha] at hj
  have hl : j < 3 := (List.getElem?_eq_some_iff.1 hj).1
  rw [hc j hl]
  exact hj

theorem open_turnsAt {fuel : Nat} {v : Value} {y : DataW H × List MemPlace} (h : DataW.trod enc Tryd.prog w 0 (fun _ => true) true fuel 46 [v] = some y) :
    ∃ A c l, v = .slice A l.length c ∧ TurnsAt w A c l := by
  rcases open_slice underTurns h with ⟨hcs, hx⟩ | ⟨a, len, cap, m, n, D, Pl, hcs, _, hl, hm, hmm, hx, hi⟩
  · simp at hcs; subst hcs
    exact ⟨none, 0, [], rfl, ⟨by simp, by simp⟩⟩
  · simp at hcs; subst hcs
    simp only [if_true] at hmm
    subst hmm
    rw [cellsTurn] at hi
    have hnode : ∀ i, i < len → ∃ t : Int × Int × Nat, ∃ b off, a = ⟨b, off, none⟩ ∧ SL.RowIs b (off + i * 3) [.int .i64 t.1, .int .i64 t.2.1, .int .u64 t.2.2] w ∧ t.2.2 < 18446744073709551616 := by
      intro i hil
      obtain ⟨cs', h1, h2⟩ := hi i (by omega)
      obtain ⟨_, hl3, hat⟩ := World.cells?_some h1
      have hspot : ∃ b off, a = ⟨b, off, none⟩ := by
        obtain ⟨cs0, h10, _⟩ := hi 0 (by omega)
        obtain ⟨_, hl', hat'⟩ := World.cells?_some h10
        have h00 := hat' 0 (by omega)
        rw [add_add] at h00
        have e : a.add (0 * 3 + 0) = a := by simp [Addr.add]
        rw [e, List.getElem?_eq_getElem (by omega)] at h00
        obtain ⟨b, off, e, _⟩ := addr_of_cell h00
        exact ⟨b, off, e⟩
      obtain ⟨b, off, rfl⟩ := hspot
      obtain ⟨t, ht, hn⟩ := open_turn (b := b) (off := off + i * 3) h2 (fun j hj => by
        have := hat j hj
        rw [add_add, add_plain] at this
        rw [Nat.add_assoc]; exact this)
      exact ⟨t, b, off, rfl, ht, hn⟩
    obtain ⟨V, hV⟩ := choose_lt hnode
    have hlen : ((List.range len).map V).length = len := by simp
    refine ⟨some a, m, (List.range len).map V, by rw [hlen], ⟨by unfold maxLen at hm; omega, fun h0 => ?_⟩⟩
    obtain ⟨b, off, rfl, _⟩ := hV 0 (by omega)
    refine ⟨b, off, rfl, fun i t ht => ?_⟩
    obtain ⟨h1, h2⟩ := List.getElem?_eq_some_iff.1 ht
    simp at h1 h2
    subst h2
    obtain ⟨b', off', e, hr, hn⟩ := hV i h1
    injection e with e1 e2 _
    subst e1 e2
    exact ⟨hr, hn⟩
end

set_option maxRecDepth 100000 in
theorem open_script {H : Type} {enc : TypeId × Value → H} {w : World} {r : Reach} {b0 : Nat} {v : Value} {d : DataW H} {p : List MemPlace} (hv : Value.okWide Tryd.prog w r b0 46 v) (h : DataW.Trod enc Tryd.prog w 0 (fun _ => true) true 46 v d p) :
    ∃ A c l, v = .slice A l.length c ∧ TurnsAt w A c l := by
  obtain ⟨fuel, hf⟩ := h
  obtain ⟨a, n, k, rfl⟩ := okWide_slice underTurns hv
  have hc : (Value.slice a n k).cells.toList = [.slice a n k] := by simp [Value.cells]
  rw [hc] at hf
  exact open_turnsAt hf

set_option maxRecDepth 100000 in
theorem contract (H : Type) (enc : TypeId × Value → H) (W : World) (base : Nat) (args : Array Value) (ds gs : List (DataW H)) (before : List MemPlace)
    (hval : ∀ (j : Nat) t v, Tryd.f6.params[j]? = some t → args[j]? = some v → Value.okWide Tryd.prog W .any base t v)
    (hW : DataW.Whole enc Tryd.prog Tryd.f6.params.toList Rows.wheeledSpec.vars false W args.toList ds gs before)
    (hsz : (DataW.weightsEach Tryd.prog (Tryd.f6.params.toList ++ Rows.wheeledSpec.plain.varTypes Tryd.prog) (ds ++ gs)).all (· ≤ reachBytes) = true)
    (hL : laidMetH Tryd.prog Rows.wheeledRow.laid W) :
    Calls Tryd.prog 6 args W fun e W' => ∃ v, e = .returned v ∧ Rows.wheeledSpec.post enc Tryd.prog Tryd.f6 false true false false W args v W' := by
  have hW' := hW
  obtain ⟨p, q, hA0, hV, rfl, hfz, hnd⟩ := hW
  have hA : DataW.TrodAll enc Tryd.prog W 0 (fun _ => true) true Tryd.f6.params.toList args.toList ds p := hA0
  rw [Tryd.params6] at hA hval hsz
  obtain ⟨v0, vs0, d0, ds0, p0, q0, hargs, rfl, rfl, h0, r0⟩ := trodAll_cons hA
  obtain ⟨v1, vs1, d1, ds1, p1, q1, rfl, rfl, rfl, h1, r1⟩ := trodAll_cons r0
  obtain ⟨rfl, rfl, rfl⟩ := trodAll_nil r1
  obtain rfl : args = #[v0, v1] := by cases args; simp_all
  obtain ⟨rfl, rfl⟩ := trodVars_none hV
  have k0 := h0
  obtain ⟨A0, c0, l0, rfl, hn0⟩ := open_script (hval 0 _ v0 rfl rfl) h0
  obtain ⟨x1, rfl, rfl, rfl, w1⟩ := open_int Tryd.underlying25 (hval 1 _ v1 rfl rfl) h1
  have b1 := bounds_u64 w1
  obtain ⟨n1, rfl⟩ : ∃ n : Nat, x1 = n := ⟨x1.toNat, by omega⟩
  simp only [List.append_nil] at hW'
  have hlt : ∀ x ∈ p0, x.block < W.heap.size := fun x hx => by simpa using hW'.lt x (by simpa using hx)
  refine (Gives.run2 (wheeled_gives A0 c0 l0 n1) hL hn0).mono fun e W' ⟨v, m, he, hR, hb⟩ => ?_
  obtain ⟨rfl, rfl⟩ := hR
  subst he
  have e1 : Rows.wheeledSpec.fn H ([d0, .lit (.int .u64 n1)] ++ []) = { results := [.lit (.bool true)], args := [d0, .lit (.int .u64 n1)] } := by simp [Rows.wheeledSpec]
  refine ⟨_, rfl, _, _, _, [], p0 ++ ([] ++ []), [], hW', ?_, ?_, ?_, hb.frame _, fun h => by cases h⟩
  · rw [e1]; exact trodAll_cons_mk (shut_bool Tryd.underlying4 _) trodAll_mk0
  · rw [e1]
    exact trodAll_cons_mk (Below.trod laidOut (by kernel_rfl) (of_decide_eq_true (by kernel_rfl)) k0 hb hlt) (trodAll_cons_mk (shut_int Tryd.underlying25 w1) trodAll_mk0)
  · rw [e1]; rfl

theorem laid_met' (os : Os) : laidMetH Tryd.prog Rows.wheeledRow.laid ((laidWorld os).forCall (fun _ _ => 0) ⟨#[], #[.slice none 0 0, .int .u64 0], []⟩).memory :=
  laid_met2 os _ (laidMet_of_run' 80 (by kernel_rfl) (by kernel_rfl)) (by kernel_rfl)
theorem reads (os : Os) {H : Type} (enc : TypeId × Value → H) : ∃ places, DataW.whole enc Tryd.prog ((laidWorld os).forCall (fun _ _ => 0) ⟨#[], #[.slice none 0 0, .int .u64 0], []⟩).memory Tryd.f6.params.toList Rows.wheeledSpec.vars false #[Value.slice none 0 0, .int .u64 0].toList 8 = some ([.nil, .lit (.int .u64 0)], [], places) :=
  ⟨[], by kernel_rfl⟩

set_option maxRecDepth 100000 in
theorem lifted (os : Os) (started : os.Started) (H : Type) (enc : TypeId × Value → H) (F : Stop.Interp) :
    ReturnsInHanded {} Tryd.checked os 6 .any ((OpenSpec.ofChange Rows.wheeledSpec).preRow enc Tryd.prog Tryd.f6 Rows.wheeledRow.domain false Rows.wheeledRow.laid) (((OpenSpec.ofChange Rows.wheeledSpec).at F).post enc Tryd.prog Tryd.f6 false true false false) := by
  obtain ⟨places, hx⟩ := reads os enc
  refine returnsInHanded_of_row (C := Tryd.checked) (s := OpenSpec.ofChange Rows.wheeledSpec) own started (by kernel_rfl) Tryd.func6
    (witness_row_at (enc := enc) (C := Tryd.checked) false (laidWorld os) #[.slice none 0 0, .int .u64 0] rfl (by kernel_rfl) (by kernel_rfl) (by kernel_rfl)
      (OpenSpec.preRow_of_cond 8 hx (by kernel_rfl) (fun k hk => by cases hk) (by kernel_rfl) (laid_met' os))) ?_
  intro W base args ds gs before hval hW _ _ hsz hL _ _
  exact contract H enc W base args ds gs before hval hW hsz hL

theorem said : Rows.WheeledSaid :=
  OpenClaim.holds_of_cond 6 Tryd.f6 rfl rfl rfl rfl rfl rfl rfl ⟨rfl, rfl, rfl, rfl, rfl⟩ rfl rfl rfl rfl rfl (by kernel_rfl) Tryd.func6 (by kernel_rfl)
    (of_decide_eq_true (by kernel_rfl)) (by unfold Func.isWrapper; first | (rw [if_pos (by decide +kernel)]; kernel_rfl) | (rw [if_neg (by decide +kernel)]; exact ⟨rfl, rfl⟩))
    (fun os started H enc _ F => by rw [OpenClaim.pre_eq_preRow]; exact lifted os started H enc F)

/-- No parameter wants a stand-in; what the card asks of the program's own looks. -/
theorem plain (f : FuncId) (fn : Func) (hf : Tryd.pinned.checked.prog.funcNamed "flowkeeper/flowkeeperlaw.Wheeled" = some f) (hfn : Tryd.pinned.checked.prog.funcs[f]? = some fn) :
    true = Tryd.pinned.checked.prog.looks [] ∧ ∀ (j : Nat) t, fn.params[j]? = some t → Tryd.pinned.checked.prog.wantsStandIn t = false := by
  obtain rfl : f = 6 := Option.some.inj ((show Tryd.prog.funcNamed "flowkeeper/flowkeeperlaw.Wheeled" = some 6 by kernel_rfl).symm.trans hf) |>.symm
  obtain rfl : fn = Tryd.f6 := (Option.some.inj (Tryd.func6.symm.trans hfn)).symm
  refine ⟨by kernel_rfl, fun j t ht => ?_⟩
  rw [Tryd.params6] at ht
  have k1 : Tryd.prog.wantsStandIn 46 = false := by kernel_rfl
  have k2 : Tryd.prog.wantsStandIn 25 = false := by kernel_rfl
  rcases j with _ | _ | j
  · simp at ht; subst ht; exact k1
  · simp at ht; subst ht; exact k2
  · simp at ht

/-- THE CARD -/
theorem card : Rows.WheeledCardSaid :=
  Claim7.holds_tied_plain_at .later [] _ _ _ _ said (fun _ h => by cases h) (by kernel_rfl) (fun _ h => by cases h) wheeled_row_tie rfl ⟨rfl, rfl⟩ (by kernel_rfl) rfl plain (by kernel_rfl)
#print axioms card
end Go.Proofs.YtagkobkmaigfcaaDoor.wheeled
