/- The walk of plain.turn, in the small logic. -/
import Derived.Test.YtagkobkmaigfcaaDoorEnc1
import Derived.Test.YtagkobkmaigfcaaDoorSlN
namespace Go.Proofs.YtagkobkmaigfcaaDoor
open Go Go.RowKit Go.SL
variable {G : Env → Prop}

theorem afts_drop {vs : List Value} {ns : List FK.Node} {i : Nat} {u : Value} {nd : FK.Node} (hu : vs[i]? = some u) (hn : ns[i]? = some nd) : aftsAt (vs.drop i) (ns.drop i) = intsAt u nd.after :: aftsAt (vs.drop (i + 1)) (ns.drop (i + 1)) := by
  obtain ⟨h1, h2⟩ := List.getElem?_eq_some_iff.1 hu
  obtain ⟨h3, h4⟩ := List.getElem?_eq_some_iff.1 hn
  rw [List.drop_eq_getElem_cons h1, List.drop_eq_getElem_cons h3, h2, h4]
  rfl

set_option maxRecDepth 10000 in
theorem turn_does (dl : Int) (A : Option Addr) (c : Nat) (ns : List FK.Node) : Does Tryd.prog G 29 [.agg #[.int .i64 dl, .slice A ns.length c]].toArray [nodesOwn (.slice A ns.length c) ns] fun v m => v = .tuple #[] ∧ m = [] := by
  refine Does.body Tryd.func29 rfl rfl fun E fr hE => ?_
  refine At.app1 ?_
  refine At.openNodes .head ?_
  intro vs hvs
  refine At.formRow .head ?_
  intro A' c' hA hnil hform hc1 hc2 hlen
  injection hA with hA _ hcc
  subst hA; subst hcc
  have hc3 : c ≤ 9223372036854775807 := by unfold maxLen at hc2; omega
  refine At.seq ?_
  refine At.region ?_
  refine L.op rfl (o_box rfl rfl fun b1 => ?_)
  refine L.nil ?_
  refine At.then ?_
  refine At.seq ?_
  refine At.region ?_
  refine L.fa 1 rfl rfl rfl ?_
  refine L.ld rfl rfl rfl rfl ?_
  refine L.pure rfl (ev_lenS rfl rfl) ?_
  refine L.mv rfl rfl ?_
  refine L.nil ?_
  refine At.then ?_
  refine At.block ?_
  refine At.loop (X := Nat × List Value) (fun x => [(7, .int .i64 x.1), (6, .int .i64 ns.length), (1, .pointer (some ⟨b1, 0, none⟩))]) (fun x => blk b1 24 #[.int .i64 dl, .slice A ns.length c] :: row 32 7 (.slice A ns.length c) ns.length x.2 :: (aftsAt (vs.drop x.1) (ns.drop x.1) ++ fr)) (fun x => x.1 ≤ ns.length ∧ x.2.length = ns.length * 7 ∧ ∀ j u, x.1 ≤ j → vs[j]? = some u → x.2[j * 7 + 6]? = some u) (fun x => ns.length - x.1) (0, nodesV ns vs) ⟨by omega, hlen, fun j u _ hu => (by obtain ⟨h1, _⟩ := List.getElem?_eq_some_iff.1 hu; rw [nodesV_at ns vs j 6 ns[j] u hvs (by simp) hu (by omega)]; rfl)⟩ ⟨rfl, rfl, rfl, trivial⟩ (Ent.refl _) ?_
  rintro ⟨i, xs⟩ ⟨hi, hxl, hxs⟩
  simp only at hi hxl hxs ⊢
  refine At.seq ?_
  refine At.region ?_
  refine L.pure rfl (ev_lss rfl rfl rfl) ?_
  refine L.nil ?_
  refine At.then ?_
  refine At.seq ?_
  refine At.condD rfl (fun c8 => ?_) (fun c8 => ?_)
  ·
    have hlt : i < ns.length := by omega
    obtain ⟨g, rfl⟩ : ∃ g, A = some ⟨g, 0, none⟩ := by
      cases A with
      | none => have := (hnil rfl).1; omega
      | some ad => obtain ⟨g, rfl⟩ := hform ad rfl; exact ⟨g, rfl⟩
    obtain ⟨nd, hnd⟩ : ∃ nd, ns[i]? = some nd := ⟨ns[i], by simp [hlt]⟩
    obtain ⟨u, hu⟩ : ∃ u, vs[i]? = some u := ⟨vs[i]'(by omega), by simp⟩
    rw [afts_drop hu hnd]
    refine At.formRow (.tail (.tail (.head))) ?_
    rintro A6 c6 rfl hnil6 hform6 h61 h62 h63
    have h64 : c6 ≤ 9223372036854775807 := by unfold maxLen at h62; omega
    refine At.skip ?_
    refine At.then ?_
    refine At.seq ?_
    refine At.block ?_
    refine At.seq ?_
    refine At.region ?_
    refine L.mv rfl rfl ?_
    refine L.as rfl rfl ?_
    refine L.nil ?_
    refine At.then ?_
    refine At.seq ?_
    refine At.seq ?_
    refine At.region ?_
    refine L.fa 1 rfl rfl rfl ?_
    refine L.ld rfl rfl rfl rfl ?_
    refine L.mv rfl rfl ?_
    refine L.pure rfl (ev_ixN (z := 7) rfl rfl rfl rfl hlt) ?_
    refine L.fa 6 rfl rfl rfl ?_
    refine L.val rfl (ev_load1 rfl rfl) (cellIn (.tail (.head)) (by simpa using hxs i _ (Nat.le_refl _) hu)) ?_
    refine L.pure rfl (ev_lenS rfl rfl) ?_
    refine L.mv rfl rfl ?_
    refine L.nil ?_
    refine At.then ?_
    refine At.block ?_
    refine At.loop (X := Nat × List Value) (fun x => [(17, .int .i64 x.1), (16, .int .i64 nd.after.length), (2, .int .i64 i), (7, .int .i64 i), (6, .int .i64 ns.length), (1, .pointer (some ⟨b1, 0, none⟩))]) (fun x => row 3 1 (.slice A6 nd.after.length c6) nd.after.length x.2 :: blk b1 24 #[.int .i64 dl, .slice (some ⟨g, 0, none⟩) ns.length c] :: row 32 7 (.slice (some ⟨g, 0, none⟩) ns.length c) ns.length xs :: (aftsAt (vs.drop (i + 1)) (ns.drop (i + 1)) ++ fr)) (fun x => x.1 ≤ nd.after.length) (fun x => nd.after.length - x.1) (0, intsV nd.after) (by omega) ⟨rfl, rfl, rfl, rfl, rfl, rfl, trivial⟩ (Ent.sel (.tail (.tail (.head)))) ?_
    rintro ⟨k, ys⟩ hk
    simp only at hk ⊢
    refine At.seq ?_
    refine At.region ?_
    refine L.pure rfl (ev_lss rfl rfl rfl) ?_
    refine L.nil ?_
    refine At.then ?_
    refine At.seq ?_
    refine At.condD rfl (fun c18 => ?_) (fun c18 => ?_)
    ·
      have hlt2 : k < nd.after.length := by omega
      obtain ⟨g6, rfl⟩ : ∃ g, A6 = some ⟨g, 0, none⟩ := by
        cases A6 with
        | none => have := (hnil6 rfl).1; omega
        | some ad => obtain ⟨g, rfl⟩ := hform6 ad rfl; exact ⟨g, rfl⟩
      refine At.skip ?_
      refine At.then ?_
      refine At.seq ?_
      refine At.block ?_
      refine At.seq ?_
      refine At.region ?_
      refine L.mv rfl rfl ?_
      refine L.as rfl rfl ?_
      refine L.nil ?_
      refine At.then ?_
      refine At.region ?_
      refine L.fa 1 rfl rfl rfl ?_
      refine L.ld rfl rfl rfl rfl ?_
      refine L.mv rfl rfl ?_
      refine L.pure rfl (ev_ixN (z := 7) rfl rfl rfl rfl hlt) ?_
      refine L.fa 6 rfl rfl rfl ?_
      refine L.val rfl (ev_load1 rfl rfl) (cellIn (.tail (.tail (.head))) (by simpa using hxs i _ (Nat.le_refl _) hu)) ?_
      refine L.mv rfl rfl ?_
      refine L.pure rfl (ev_ixN (z := 1) rfl rfl rfl rfl hlt2) ?_
      refine L.op rfl (o_storeRow .head rfl rfl rfl rfl (by omega) ?_)
      refine L.nil ?_
      refine At.inBlock (At.then ?_)
      refine At.region ?_
      refine L.pure rfl (ev_add rfl rfl (w64 (by omega))) ?_
      refine L.mv rfl rfl ?_
      refine L.nil ?_
      exact At.round (k + 1, _) (by simp only; omega) (by simp only; omega) ⟨rfl, rfl, rfl, rfl, rfl, rfl, trivial⟩ (Ent.refl _)
    ·
      refine At.exit ?_
      refine At.thenExit (At.roundExit (At.inBlockHit (At.then ?_)))
      refine At.region ?_
      refine L.fa 1 rfl rfl rfl ?_
      refine L.ld rfl rfl rfl rfl ?_
      refine L.mv rfl rfl ?_
      refine L.pure rfl (ev_build (ps := []) (vs := []) (cs := #[.int .i64 0, .int .i64 0, .int .i64 0, .int .i64 0, .int .i64 0, .int .i64 0, .slice none 0 0]) rfl rfl rfl rfl rfl) ?_
      refine L.pure rfl (ev_ixN (z := 7) rfl rfl rfl rfl hlt) ?_
      refine L.op rfl (o_storeRowN (k := 7) (vs := [.int .i64 0, .int .i64 0, .int .i64 0, .int .i64 0, .int .i64 0, .int .i64 0, .slice none 0 0]) (.tail (.tail (.head))) rfl rfl rfl rfl (by simp [Value.oneCell']) (by omega) ?_)
      refine L.nil ?_
      refine At.inBlock (At.then ?_)
      refine At.region ?_
      refine L.pure rfl (ev_add rfl rfl (w64 (by omega))) ?_
      refine L.mv rfl rfl ?_
      refine L.nil ?_
      exact At.round (i + 1, lset xs (0 + i * 7) [.int .i64 0, .int .i64 0, .int .i64 0, .int .i64 0, .int .i64 0, .int .i64 0, .slice none 0 0]) ⟨by simp only; omega, by simp only [lset_length]; exact hxl, fun j u hj hu => (by simp only at hj ⊢; rw [lset_off _ _ _ _ (by simp; omega)]; exact hxs j u (by omega) hu)⟩ (by simp only; omega) ⟨rfl, rfl, rfl, trivial⟩ ((Ent.cons Ent.drop).trans (Ent.perm (List.Perm.swap _ _ _)))
  ·
    refine At.exit ?_
    refine At.thenExit (At.roundExit (At.inBlockHit ?_))
    exact At.end0 [] rfl ⟨rfl, rfl⟩ (Ent.drop.trans (Ent.drop.trans (dropApp _)))
end Go.Proofs.YtagkobkmaigfcaaDoor
