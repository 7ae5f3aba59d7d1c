/-
  The law Honest returns true, for all numbers. No condition beyond the row's own (the listed variables read as their initialisers lay them, tied to the program's text by the card).
-/
import Derived.Test.YtmeegfamopaljaaGreatDoorHnM
import Derived.ChangeMaps5
set_option maxRecDepth 100000
namespace Go.Proofs.YtmeegfamopaljaaGreatDoor.honest
open Go Go.ChangeShapes Go.WideShapes Go.ChangeAt Go.RowKit Go.Deep Go.ChangeMaps
theorem contract (H : Type) (enc : TypeId × Value → H) (W : World) (base : Nat) (args : Array Value) (ds gs : List (DataW H)) (before : List MemPlace)
 (hval : ∀ (j : Nat) t v, Tryz.f5.params[j]? = some t → args[j]? = some v → Value.okWide Tryz.prog W .any base t v)
 (hW : DataW.Whole enc Tryz.prog Tryz.f5.params.toList Rows.honestSpec.vars false W args.toList ds gs before)
 (hL : laidMetH Tryz.prog Rows.honestRow.laid W) :
 Calls Tryz.prog 5 args W fun e W' => ∃ v, e = .returned v ∧ Rows.honestSpec.post enc Tryz.prog Tryz.f5 false true false false W args v W' := by
 have hW' := hW
 obtain ⟨p, q, hA0, hV, rfl, hfz, cN⟩ := hW
 have hA : DataW.TrodAll enc Tryz.prog W 0 (fun _ => true) true Tryz.f5.params.toList args.toList ds p := hA0
 rw [Tryz.params5] at hA hval
 obtain ⟨v0, vs0, d0, ds0, p0, q0, hargs, rfl, rfl, h0, r0⟩ := trodAll_cons hA
 obtain ⟨v1, vs1, d1, ds1, p1, q1, rfl, rfl, rfl, h1, r1⟩ := trodAll_cons r0
 obtain ⟨v2, vs2, d2, ds2, p2, q2, rfl, rfl, rfl, h2, r2⟩ := trodAll_cons r1
 obtain ⟨v3, vs3, d3, ds3, p3, q3, rfl, rfl, rfl, h3, r3⟩ := trodAll_cons r2
 obtain ⟨v4, vs4, d4, ds4, p4, q4, rfl, rfl, rfl, h4, r4⟩ := trodAll_cons r3
 obtain ⟨rfl, rfl, rfl⟩ := trodAll_nil r4
 obtain rfl : args = #[v0, v1, v2, v3, v4] := by cases args; simp_all
 obtain ⟨rfl, rfl⟩ := trodVars_none hV
 have k1 := h1
 have k2 := h2
 have k4 := h4
 obtain ⟨x0, rfl, rfl, rfl, w0⟩ := open_int Tryz.underlying3 (hval 0 _ v0 rfl rfl) h0
 obtain ⟨A1, c1, l1, rfl, hn1⟩ := pA (hval 1 _ v1 rfl rfl) h1
 obtain ⟨A2, c2, l2, rfl, hn2⟩ := pA (hval 2 _ v2 rfl rfl) h2
 obtain ⟨x3, rfl, rfl, rfl, w3⟩ := open_int Tryz.underlying3 (hval 3 _ v3 rfl rfl) h3
 obtain ⟨A4, c4, l4, rfl, hn4⟩ := y6 (hval 4 _ v4 rfl rfl) h4
 simp only [List.append_nil] at hW'
 have hlt : ∀ x ∈ p1 ++ (p2 ++ (p4)), x.block < W.heap.size := fun x hx => by simpa using hW'.lt x (by simpa using hx)
 refine (Gives.run (qV x0 x3 (gR w0) (gR w3) A1 A2 A4 c1 c2 c4 l1 l2 l4) hL ⟨⟨hn1, hn2⟩, hn4⟩).mono fun e W' ⟨v, m, he, hR, hb⟩ => ?_
 obtain ⟨rfl, rfl⟩ := hR
 subst he
 have e1 : Rows.honestSpec.fn H ([.lit (.int .i64 x0), d1, d2, .lit (.int .i64 x3), d4] ++ []) = { results := [.lit (.bool true)], args := [.lit (.int .i64 x0), d1, d2, .lit (.int .i64 x3), d4] } := by simp [Rows.honestSpec]
 refine ⟨_, rfl, _, _, _, [], [] ++ (p1 ++ (p2 ++ ([] ++ (p4 ++ ([]))))), [], hW', ?_, ?_, ?_, hb.frame _, fun h => by cases h⟩
 · rw [e1]; exact trodAll_cons_mk (shut_bool Tryz.underlying4 _) trodAll_mk0
 · rw [e1]
   exact trodAll_cons_mk (shut_int Tryz.underlying3 w0) (trodAll_cons_mk (Below.trod nb (by kernel_rfl) (of_decide_eq_true (by kernel_rfl)) k1 hb fun x hx => hlt x (List.mem_append_left _ hx)) (trodAll_cons_mk (Below.trod nb (by kernel_rfl) (of_decide_eq_true (by kernel_rfl)) k2 hb fun x hx => hlt x (List.mem_append_right _ (List.mem_append_left _ hx))) (trodAll_cons_mk (shut_int Tryz.underlying3 w3) (trodAll_cons_mk (Below.trod nb (by kernel_rfl) (of_decide_eq_true (by kernel_rfl)) k4 hb fun x hx => hlt x (List.mem_append_right _ (List.mem_append_right _ hx))) trodAll_mk0))))
 · rw [e1]; rfl
theorem laid_met' (os : Os) : laidMetH Tryz.prog Rows.honestRow.laid ((gQ os).forCall (fun _ _ => 0) ⟨#[], #[.int .i64 0, .slice none 0 0, .slice none 0 0, .int .i64 0, .slice none 0 0], []⟩).memory :=
 zv os _ (laidMet_of_run' 80 (by kernel_rfl) (by kernel_rfl)) (by kernel_rfl)
theorem reads (os : Os) {H : Type} (enc : TypeId × Value → H) : ∃ places, DataW.whole enc Tryz.prog ((gQ os).forCall (fun _ _ => 0) ⟨#[], #[.int .i64 0, .slice none 0 0, .slice none 0 0, .int .i64 0, .slice none 0 0], []⟩).memory Tryz.f5.params.toList Rows.honestSpec.vars false #[Value.int .i64 0, .slice none 0 0, .slice none 0 0, .int .i64 0, .slice none 0 0].toList 8 = some ([.lit (.int .i64 0), .nil, .nil, .lit (.int .i64 0), .nil], [], places) :=
 ⟨[], by kernel_rfl⟩
theorem lifted (os : Os) (started : os.Started) (H : Type) (enc : TypeId × Value → H) (F : Stop.Interp) :
 ReturnsInHanded {} Tryz.checked os 5 .any ((OpenSpec.ofChange Rows.honestSpec).preRow enc Tryz.prog Tryz.f5 Rows.honestRow.domain false Rows.honestRow.laid) (((OpenSpec.ofChange Rows.honestSpec).at F).post enc Tryz.prog Tryz.f5 false true false false) := by
 obtain ⟨places, hx⟩ := reads os enc
 refine returnsInHanded_of_row (C := Tryz.checked) (s := OpenSpec.ofChange Rows.honestSpec) own started (by kernel_rfl) Tryz.func5
  (witness_row_at (enc := enc) (C := Tryz.checked) false (gQ os) #[.int .i64 0, .slice none 0 0, .slice none 0 0, .int .i64 0, .slice none 0 0] rfl (by kernel_rfl) (by kernel_rfl) (by kernel_rfl)
   (OpenSpec.preRow_of_cond 8 hx (by kernel_rfl) (fun k hk => by cases hk) (by kernel_rfl) (laid_met' os))) ?_
 intro W base args ds gs before hval hW _ _ _ hL _ _
 exact contract H enc W base args ds gs before hval hW hL
theorem inPlaceIs : (fun (P : Program) (f : FuncId) (c : OpenClaim) => (((c.inPlace == P.inPlace f)) : Bool)) Tryz.prog 5 Rows.honestRow = true := by kernel_rfl
theorem unfollowedIs : (fun (P : Program) (f : FuncId) (c : OpenClaim) => (((c.unfollowed == P.unfollowed f)) : Bool)) Tryz.prog 5 Rows.honestRow = true := by kernel_rfl
theorem recursesIs : (fun (P : Program) (f : FuncId) (c : OpenClaim) => (((c.recurses == P.recurses f)) : Bool)) Tryz.prog 5 Rows.honestRow = true := by kernel_rfl
theorem namedIs : (fun (P : Program) (f : FuncId) (c : OpenClaim) => (((c.named == P.varsNamed f)) : Bool)) Tryz.prog 5 Rows.honestRow = true := by kernel_rfl
theorem closed : joinedFacts Tryz.prog 5 Tryz.f5 Rows.honestSpec Rows.honestRow = true :=
 xj (by kernel_rfl) nb ug (by kernel_rfl) (by kernel_rfl) (by kernel_rfl) (by kernel_rfl) (by kernel_rfl) (by kernel_rfl) inPlaceIs unfollowedIs recursesIs namedIs (by kernel_rfl) (by kernel_rfl) (by kernel_rfl) (by kernel_rfl) (by kernel_rfl) (by kernel_rfl) (by kernel_rfl) (by kernel_rfl) (by kernel_rfl) xf (by kernel_rfl) oR zN zq Ci (by kernel_rfl) (by kernel_rfl) (by kernel_rfl) (by kernel_rfl)
theorem goesIs : true = Rows.honestRow.goesBy Tryz.prog := by kernel_rfl
theorem said : Rows.HonestSaid :=
 OpenClaim.holds_of_wide_leaving 5 Tryz.f5 rfl rfl rfl rfl rfl rfl rfl ⟨rfl, rfl, rfl, rfl, rfl⟩ rfl rfl rfl rfl rfl (by kernel_rfl) Tryz.func5 closed
  (of_decide_eq_true (by kernel_rfl)) (by unfold Func.isWrapper; first | (rw [if_pos (by decide +kernel)]; kernel_rfl) | (rw [if_neg (by decide +kernel)]; exact ⟨rfl, rfl⟩))
  (fun os started H enc _ => by rw [OpenClaim.pre_eq_preRow]; exact lK (lifted os started H enc (fun _ _ _ => 0)))
theorem plain (f : FuncId) (fn : Func) (hf : Tryz.pinned.checked.prog.funcNamed "flowkeeper/flowkeeperkeep.Honest" = some f) (hfn : Tryz.pinned.checked.prog.funcs[f]? = some fn) :
 true = Tryz.pinned.checked.prog.looks [] ∧ ∀ (j : Nat) t, fn.params[j]? = some t → Tryz.pinned.checked.prog.wantsStandIn t = false := by
 obtain rfl : f = 5 := Option.some.inj ((show Tryz.prog.funcNamed "flowkeeper/flowkeeperkeep.Honest" = some 5 by kernel_rfl).symm.trans hf) |>.symm
 obtain rfl : fn = Tryz.f5 := (Option.some.inj (Tryz.func5.symm.trans hfn)).symm
 refine ⟨by kernel_rfl, fun j t ht => ?_⟩
 rw [Tryz.params5] at ht
 have k1 : Tryz.prog.wantsStandIn 24 = false := by kernel_rfl
 have k2 : Tryz.prog.wantsStandIn 3 = false := by kernel_rfl
 have k4 : Tryz.prog.wantsStandIn 26 = false := by kernel_rfl
 rcases j with _ | _ | _ | _ | _ | j
 · simp at ht; subst ht; exact k2
 · simp at ht; subst ht; exact k1
 · simp at ht; subst ht; exact k1
 · simp at ht; subst ht; exact k2
 · simp at ht; subst ht; exact k4
 · simp at ht
theorem card : Rows.HonestCardSaid :=
 mW .later _ _ _ _ said (by kernel_rfl) honest_row_tie rfl ⟨rfl, rfl⟩ (by kernel_rfl) rfl plain goesIs
#print axioms card
end Go.Proofs.YtmeegfamopaljaaGreatDoor.honest
