/-
  The law Ends returns true, for all numbers. No condition beyond the row's own (the listed variables read as their initialisers lay them, tied to the program's text by the card).
-/
import Derived.Test.YtmeegfamopaljaaGreatDoorEdAA
import Derived.ChangeMaps5
namespace Go.Proofs.YtmeegfamopaljaaGreatDoor.ends
open Go Go.ChangeShapes Go.WideShapes Go.ChangeAt Go.RowKit Go.Deep Go.ChangeMaps
set_option maxRecDepth 100000 in
theorem contract (H : Type) (enc : TypeId × Value → H) (W : World) (base : Nat) (args : Array Value) (ds gs : List (DataW H)) (before : List MemPlace)
 (hval : ∀ (j : Nat) t v, Tryz.f8.params[j]? = some t → args[j]? = some v → Value.okWide Tryz.prog W .any base t v)
 (hW : DataW.Whole enc Tryz.prog Tryz.f8.params.toList Rows.endsSpec.vars false W args.toList ds gs before)
 (hL : laidMetH Tryz.prog Rows.endsRow.laid W) :
 Calls Tryz.prog 8 args W fun e W' => ∃ v, e = .returned v ∧ Rows.endsSpec.post enc Tryz.prog Tryz.f8 false true false false W args v W' := by
 have hW' := hW
 obtain ⟨p, q, hA0, hV, rfl, hfz, db⟩ := hW
 have hA : DataW.TrodAll enc Tryz.prog W 0 (fun _ => true) true Tryz.f8.params.toList args.toList ds p := hA0
 rw [Tryz.params8] at hA hval
 obtain ⟨v0, vs0, d0, ds0, p0, q0, hargs, rfl, rfl, h0, r0⟩ := trodAll_cons hA
 obtain ⟨v1, vs1, d1, ds1, p1, q1, rfl, rfl, rfl, h1, r1⟩ := trodAll_cons r0
 obtain ⟨v2, vs2, d2, ds2, p2, q2, rfl, rfl, rfl, h2, r2⟩ := trodAll_cons r1
 obtain ⟨v3, vs3, d3, ds3, p3, q3, rfl, rfl, rfl, h3, r3⟩ := trodAll_cons r2
 obtain ⟨v4, vs4, d4, ds4, p4, q4, rfl, rfl, rfl, h4, r4⟩ := trodAll_cons r3
 obtain ⟨v5, vs5, d5, ds5, p5, q5, rfl, rfl, rfl, h5, r5⟩ := trodAll_cons r4
 obtain ⟨v6, vs6, d6, ds6, p6, q6, rfl, rfl, rfl, h6, r6⟩ := trodAll_cons r5
 obtain ⟨v7, vs7, d7, ds7, p7, q7, rfl, rfl, rfl, h7, r7⟩ := trodAll_cons r6
 obtain ⟨rfl, rfl, rfl⟩ := trodAll_nil r7
 obtain rfl : args = #[v0, v1, v2, v3, v4, v5, v6, v7] := by cases args; simp_all
 obtain ⟨rfl, rfl⟩ := trodVars_none hV
 have k1 := h1
 have k2 := h2
 obtain ⟨x0, rfl, rfl, rfl, w0⟩ := open_int Tryz.underlying3 (hval 0 _ v0 rfl rfl) h0
 obtain ⟨A1, c1, l1, rfl, hn1⟩ := pn (hval 1 _ v1 rfl rfl) h1
 obtain ⟨A2, c2, l2, rfl, hn2⟩ := pn (hval 2 _ v2 rfl rfl) h2
 obtain ⟨x3, rfl, rfl, rfl, w3⟩ := open_int Tryz.underlying3 (hval 3 _ v3 rfl rfl) h3
 obtain ⟨x4, rfl, rfl, rfl, w4⟩ := open_int Tryz.underlying3 (hval 4 _ v4 rfl rfl) h4
 obtain ⟨x5, rfl, rfl, rfl, w5⟩ := open_int Tryz.underlying3 (hval 5 _ v5 rfl rfl) h5
 obtain ⟨x6, rfl, rfl, rfl⟩ := open_bool Tryz.underlying4 (hval 6 _ v6 rfl rfl) h6
 obtain ⟨x7, rfl, rfl, rfl, w7⟩ := open_int Tryz.underlying3 (hval 7 _ v7 rfl rfl) h7
 simp only [List.append_nil] at hW'
 have hlt : ∀ x ∈ p1 ++ (p2), x.block < W.heap.size := fun x hx => by simpa using hW'.lt x (by simpa using hx)
 refine (Gives.run (uB x0 x3 x4 x5 x7 x6 (gF w0) (gF w3) (gF w4) (gF w5) (gF w7) A1 A2 c1 c2 l1 l2) hL ⟨hn1, hn2⟩).mono fun e W' ⟨v, m, he, hR, hb⟩ => ?_
 obtain ⟨rfl, rfl⟩ := hR
 subst he
 have e1 : Rows.endsSpec.fn H ([.lit (.int .i64 x0), d1, d2, .lit (.int .i64 x3), .lit (.int .i64 x4), .lit (.int .i64 x5), .lit (.bool x6), .lit (.int .i64 x7)] ++ []) = { results := [.lit (.bool true)], args := [.lit (.int .i64 x0), d1, d2, .lit (.int .i64 x3), .lit (.int .i64 x4), .lit (.int .i64 x5), .lit (.bool x6), .lit (.int .i64 x7)] } := by simp [Rows.endsSpec]
 refine ⟨_, rfl, _, _, _, [], [] ++ (p1 ++ (p2 ++ ([] ++ ([] ++ ([] ++ ([] ++ ([] ++ ([])))))))), [], hW', ?_, ?_, ?_, hb.frame _, fun h => by cases h⟩
 · rw [e1]; exact trodAll_cons_mk (shut_bool Tryz.underlying4 _) trodAll_mk0
 · rw [e1]
   exact trodAll_cons_mk (shut_int Tryz.underlying3 w0) (trodAll_cons_mk (Below.trod qp (by kernel_rfl) (of_decide_eq_true (by kernel_rfl)) k1 hb fun x hx => hlt x (List.mem_append_left _ hx)) (trodAll_cons_mk (Below.trod qp (by kernel_rfl) (of_decide_eq_true (by kernel_rfl)) k2 hb fun x hx => hlt x (List.mem_append_right _ hx)) (trodAll_cons_mk (shut_int Tryz.underlying3 w3) (trodAll_cons_mk (shut_int Tryz.underlying3 w4) (trodAll_cons_mk (shut_int Tryz.underlying3 w5) (trodAll_cons_mk (shut_bool Tryz.underlying4 _) (trodAll_cons_mk (shut_int Tryz.underlying3 w7) trodAll_mk0)))))))
 · rw [e1]; rfl
theorem laid_met' (os : Os) : laidMetH Tryz.prog Rows.endsRow.laid ((gE os).forCall (fun _ _ => 0) ⟨#[], #[.int .i64 0, .slice none 0 0, .slice none 0 0, .int .i64 0, .int .i64 0, .int .i64 0, .bool false, .int .i64 0], []⟩).memory :=
 zo os _ (laidMet_of_run' 80 (by kernel_rfl) (by kernel_rfl)) (by kernel_rfl)
theorem reads (os : Os) {H : Type} (enc : TypeId × Value → H) : ∃ places, DataW.whole enc Tryz.prog ((gE os).forCall (fun _ _ => 0) ⟨#[], #[.int .i64 0, .slice none 0 0, .slice none 0 0, .int .i64 0, .int .i64 0, .int .i64 0, .bool false, .int .i64 0], []⟩).memory Tryz.f8.params.toList Rows.endsSpec.vars false #[Value.int .i64 0, .slice none 0 0, .slice none 0 0, .int .i64 0, .int .i64 0, .int .i64 0, .bool false, .int .i64 0].toList 8 = some ([.lit (.int .i64 0), .nil, .nil, .lit (.int .i64 0), .lit (.int .i64 0), .lit (.int .i64 0), .lit (.bool false), .lit (.int .i64 0)], [], places) :=
 ⟨[], by kernel_rfl⟩
set_option maxRecDepth 100000 in
theorem lifted (os : Os) (started : os.Started) (H : Type) (enc : TypeId × Value → H) (F : Stop.Interp) :
 ReturnsInHanded {} Tryz.checked os 8 .any ((OpenSpec.ofChange Rows.endsSpec).preRow enc Tryz.prog Tryz.f8 Rows.endsRow.domain false Rows.endsRow.laid) (((OpenSpec.ofChange Rows.endsSpec).at F).post enc Tryz.prog Tryz.f8 false true false false) := by
 obtain ⟨places, hx⟩ := reads os enc
 refine returnsInHanded_of_row (C := Tryz.checked) (s := OpenSpec.ofChange Rows.endsSpec) own started (by kernel_rfl) Tryz.func8
  (witness_row_at (enc := enc) (C := Tryz.checked) false (gE os) #[.int .i64 0, .slice none 0 0, .slice none 0 0, .int .i64 0, .int .i64 0, .int .i64 0, .bool false, .int .i64 0] rfl (by kernel_rfl) (by kernel_rfl) (by kernel_rfl)
   (OpenSpec.preRow_of_cond 8 hx (by kernel_rfl) (fun k hk => by cases hk) (by kernel_rfl) (laid_met' os))) ?_
 intro W base args ds gs before hval hW _ _ _ hL _ _
 exact contract H enc W base args ds gs before hval hW hL
theorem inPlaceIs : (fun (P : Program) (f : FuncId) (c : OpenClaim) => (((c.inPlace == P.inPlace f)) : Bool)) Tryz.prog 8 Rows.endsRow = true := by kernel_rfl
theorem unfollowedIs : (fun (P : Program) (f : FuncId) (c : OpenClaim) => (((c.unfollowed == P.unfollowed f)) : Bool)) Tryz.prog 8 Rows.endsRow = true := by kernel_rfl
theorem recursesIs : (fun (P : Program) (f : FuncId) (c : OpenClaim) => (((c.recurses == P.recurses f)) : Bool)) Tryz.prog 8 Rows.endsRow = true := by kernel_rfl
theorem namedIs : (fun (P : Program) (f : FuncId) (c : OpenClaim) => (((c.named == P.varsNamed f)) : Bool)) Tryz.prog 8 Rows.endsRow = true := by kernel_rfl
theorem closed : joinedFacts Tryz.prog 8 Tryz.f8 Rows.endsSpec Rows.endsRow = true :=
 xc (by kernel_rfl) qp tV (by kernel_rfl) (by kernel_rfl) (by kernel_rfl) (by kernel_rfl) (by kernel_rfl) (by kernel_rfl) inPlaceIs unfollowedIs recursesIs namedIs (by kernel_rfl) (by kernel_rfl) (by kernel_rfl) (by kernel_rfl) (by kernel_rfl) (by kernel_rfl) (by kernel_rfl) (by kernel_rfl) (by kernel_rfl) w8 (by kernel_rfl) oz zG zl B5 (by kernel_rfl) (by kernel_rfl) (by kernel_rfl) (by kernel_rfl)
theorem goesIs : true = Rows.endsRow.goesBy Tryz.prog := by kernel_rfl
theorem said : Rows.EndsSaid :=
 OpenClaim.holds_of_wide_leaving 8 Tryz.f8 rfl rfl rfl rfl rfl rfl rfl ⟨rfl, rfl, rfl, rfl, rfl⟩ rfl rfl rfl rfl rfl (by kernel_rfl) Tryz.func8 closed
  (of_decide_eq_true (by kernel_rfl)) (by unfold Func.isWrapper; first | (rw [if_pos (by decide +kernel)]; kernel_rfl) | (rw [if_neg (by decide +kernel)]; exact ⟨rfl, rfl⟩))
  (fun os started H enc _ => by rw [OpenClaim.pre_eq_preRow]; exact lq (lifted os started H enc (fun _ _ _ => 0)))
theorem plain (f : FuncId) (fn : Func) (hf : Tryz.pinned.checked.prog.funcNamed "flowkeeper/flowkeeperkeep.Ends" = some f) (hfn : Tryz.pinned.checked.prog.funcs[f]? = some fn) :
 true = Tryz.pinned.checked.prog.looks [] ∧ ∀ (j : Nat) t, fn.params[j]? = some t → Tryz.pinned.checked.prog.wantsStandIn t = false := by
 obtain rfl : f = 8 := Option.some.inj ((show Tryz.prog.funcNamed "flowkeeper/flowkeeperkeep.Ends" = some 8 by kernel_rfl).symm.trans hf) |>.symm
 obtain rfl : fn = Tryz.f8 := (Option.some.inj (Tryz.func8.symm.trans hfn)).symm
 refine ⟨by kernel_rfl, fun j t ht => ?_⟩
 rw [Tryz.params8] at ht
 have k1 : Tryz.prog.wantsStandIn 24 = false := by kernel_rfl
 have k2 : Tryz.prog.wantsStandIn 3 = false := by kernel_rfl
 have k3 : Tryz.prog.wantsStandIn 4 = false := by kernel_rfl
 rcases j with _ | _ | _ | _ | _ | _ | _ | _ | j
 · simp at ht; subst ht; exact k2
 · simp at ht; subst ht; exact k1
 · simp at ht; subst ht; exact k1
 · simp at ht; subst ht; exact k2
 · simp at ht; subst ht; exact k2
 · simp at ht; subst ht; exact k2
 · simp at ht; subst ht; exact k3
 · simp at ht; subst ht; exact k2
 · simp at ht
theorem card : Rows.EndsCardSaid :=
 mJ .later _ _ _ _ said (by kernel_rfl) ends_row_tie rfl ⟨rfl, rfl⟩ (by kernel_rfl) rfl plain goesIs
#print axioms card
end Go.Proofs.YtmeegfamopaljaaGreatDoor.ends
