/- The walks of plain.copied and plain.turn, in the small logic. -/
import Derived.Test.YtagkobkmaigfcaaDoorRead3
namespace Go.SL
open Go Go.RowKit
theorem Sel.app {p : HP} {l r : List HP} (s : Sel p l r) : ∀ a : List HP, Sel p (a ++ l) (a ++ r)
  | [] => s
  | _ :: a => .tail (Sel.app s a)
end Go.SL
namespace Go.Proofs.YtagkobkmaigfcaaDoor
open Go Go.RowKit Go.SL
variable {G : Env → Prop}

theorem srcOld {E : Env} {l r : List HP} {w0 : World} {B : Nat} {A : Option Addr} {c : Nat} {xs : List Int} (s : Sel (old E w0) l r) (h0 : E.is w0) (h : IntsAt w0 B A c xs) (hB : B ≤ w0.heap.size) : ∀ w, Holds E w l → SrcIs A (intsV xs) w :=
  oldAt s h0 fun w hb ad had j u hj => by
    have hk := h.keep (hb.to_same.mono hB)
    simp only [intsV, List.getElem?_map, Option.map_eq_some_iff] at hj
    obtain ⟨x, hx, rfl⟩ := hj
    obtain ⟨b, off, hA, _, hc⟩ := hk.cells (by have := (List.getElem?_eq_some_iff.1 hx).1; omega)
    rw [had] at hA
    injection hA with hA
    subst hA
    rw [add_plain]
    exact hc j x hx

theorem NodesAt.i64s {w : World} {B : Nat} {A : Option Addr} {c : Nat} {ns : List FK.Node} (h : NodesAt w B A c ns) : ∀ n ∈ ns, (i64 n.budget ∧ i64 n.close ∧ i64 n.beat ∧ i64 n.base ∧ i64 n.cap ∧ i64 n.jitter) ∧ ∀ x ∈ n.after, i64 x := fun n hn => by
  obtain ⟨i, hi⟩ := List.getElem?_of_mem hn
  obtain ⟨b, off, _, _, hc⟩ := h.cells (by have := (List.getElem?_eq_some_iff.1 hi).1; omega)
  have hnode := hc i n hi
  obtain ⟨_, _, _, hi6⟩ := hnode.c6
  exact ⟨hnode.rng, hi6.rng⟩

theorem copy_snoc {v' : Value} {vs : List Value} {ns : List FK.Node} {k : Nat} {u : Value} {nd : FK.Node} {a b x y z : HP} (h : vs.length = k) (hk : ns[k]? = some nd) :
    Ent (row 32 7 v' (k + 1) (nodesV (ns.take k) vs ++ nodeCells nd u) :: a :: b :: intsAt u nd.after :: x :: y :: z :: aftsAt vs (ns.take k)) (row 32 7 v' (k + 1) (nodesV (ns.take (k + 1)) (vs ++ [u])) :: x :: y :: z :: aftsAt (vs ++ [u]) (ns.take (k + 1))) := by
  have hl : vs.length = (ns.take k).length := by have := (List.getElem?_eq_some_iff.1 hk).1; simp; omega
  rw [take_more hk, aftsAt_snoc hl, nodesV_snoc _ _ _ _ hl]
  refine Ent.cons (Ent.drop.trans (Ent.drop.trans (Ent.perm ?_)))
  have h1 : ([intsAt u nd.after] ++ (x :: y :: z :: aftsAt vs (ns.take k))).Perm ((x :: y :: z :: aftsAt vs (ns.take k)) ++ [intsAt u nd.after]) := List.perm_append_comm
  simpa using h1

theorem copy_close {v : Value} {vs : List Value} {ns : List FK.Node} {z : HP} (h : vs.length = ns.length) :
    Ent (row 32 7 v ns.length (nodesV (ns.take ns.length) vs) :: z :: aftsAt vs (ns.take ns.length)) ([nodesOwn v ns] ++ [z]) := by
  rw [List.take_length]
  refine (Ent.perm ?_).trans (nodesOwn.ent (r := [z]) h)
  exact List.Perm.cons _ (List.perm_append_comm (l₁ := [z]) (l₂ := aftsAt vs ns))

set_option maxRecDepth 10000 in
theorem copied_gives (dl : Int) (A : Option Addr) (c : Nat) (ns : List FK.Node) (hfit : FlowFits ns) : Gives Tryd.prog G 27 [.agg #[.int .i64 dl, .slice A ns.length c]].toArray (fun w => NodesAt w w.heap.size A c ns)
    fun v m => ∃ A' c', v = .agg #[.int .i64 dl, .slice A' ns.length c'] ∧ m = [nodesOwn (.slice A' ns.length c') ns] := by
  refine Gives.body Tryd.func27 rfl rfl fun E w0 hE h0 hN => ?_
  refine At.seq ?_
  refine At.region ?_
  refine L.op rfl (o_box rfl rfl fun b1 => ?_)
  refine L.op rfl (o_alloc (z := .agg #[.int .i64 0, .slice none 0 0]) rfl rfl fun b2 => ?_)
  refine L.nil ?_
  refine At.then ?_
  refine At.seq ?_
  refine At.region ?_
  refine L.as rfl rfl ?_
  refine L.nil ?_
  refine At.then ?_
  refine At.seq ?_
  refine At.seq ?_
  refine At.region ?_
  refine L.fa 1 rfl rfl rfl ?_
  refine L.ld rfl rfl rfl rfl ?_
  refine L.pure rfl (ev_lenS rfl rfl) ?_
  refine L.mv rfl rfl ?_
  refine L.nil ?_
  refine At.then ?_
  refine At.block ?_
  refine At.loop (X := Nat × List Value × Value) (fun x => [(9, .int .i64 x.1), (3, x.2.2), (7, .slice A ns.length c), (8, .int .i64 ns.length), (1, .pointer (some ⟨b1, 0, none⟩)), (2, .pointer (some ⟨b2, 0, none⟩))]) (fun x => row 32 7 x.2.2 x.1 (nodesV (ns.take x.1) x.2.1) :: blk b2 24 #[.int .i64 0, .slice none 0 0] :: blk b1 24 #[.int .i64 dl, .slice A ns.length c] :: old E w0 :: aftsAt x.2.1 (ns.take x.1)) (fun x => x.1 ≤ ns.length ∧ x.2.1.length = x.1) (fun x => ns.length - x.1) (0, [], .slice none 0 0) ⟨by omega, rfl⟩ ⟨rfl, rfl, rfl, rfl, rfl, rfl, trivial⟩ Ent.row0 ?_
  rintro ⟨k, vs, v3⟩ ⟨hk, hvs⟩
  simp only at hk hvs ⊢
  refine At.seq ?_
  refine At.region ?_
  refine L.pure rfl (ev_lss rfl rfl rfl) ?_
  refine L.nil ?_
  refine At.then ?_
  refine At.seq ?_
  refine At.condD rfl (fun c10 => ?_) (fun c10 => ?_)
  ·
    have hlt : k < ns.length := by omega
    obtain ⟨b, off, rfl, hbB, hcell⟩ := hN.cells (by omega)
    obtain ⟨nd, hnd⟩ : ∃ nd, ns[k]? = some nd := ⟨ns[k], by simp [hlt]⟩
    obtain ⟨A6, c6, hrow, hints⟩ := NodeAt.row (hcell k nd hnd)
    have hf1 := hfit.1
    have hf2 := hfit.2 nd (List.mem_of_getElem? hnd)
    refine At.skip ?_
    refine At.then ?_
    refine At.seq ?_
    refine At.block ?_
    refine At.seq ?_
    refine At.region ?_
    refine L.pure rfl (ev_ixN (z := 7) rfl rfl rfl rfl (by omega)) ?_
    refine L.val rfl (ev_loadN (vs := nodeVals nd A6 c6) rfl rfl rfl rfl) (rowOld (.tail (.tail (.tail (.head)))) h0 hrow) ?_
    refine L.op rfl (o_alloc (z := .agg #[.int .i64 0, .int .i64 0, .int .i64 0, .int .i64 0, .int .i64 0, .int .i64 0, .slice none 0 0]) rfl rfl fun b5 => ?_)
    refine L.op rfl (o_storeN rfl (m := 7) (vs := nodeVals nd A6 c6) rfl rfl rfl rfl (by simp [nodeVals, Value.oneCell']) (by simp [nodeVals, Value.cells]) ?_)
    simp only [Value.cells, setRow_all]
    refine L.nil ?_
    refine At.then ?_
    refine At.seq ?_
    refine At.region ?_
    refine L.fa 6 rfl rfl rfl ?_
    refine L.ld rfl rfl rfl rfl ?_
    refine At.ent (Ent.row0 (e := 3) (size := 1)) ?_
    refine L.op rfl (o_append (k := 0) (xs := []) rfl rfl infoInt rfl (by omega) rfl rfl .head (news := intsV nd.after) (by simp [intsV]) (fun h => by have := hints.cells; subst h; rcases Nat.eq_zero_or_pos nd.after.length with h | h; exact h; obtain ⟨_, _, h, _⟩ := this h; cases h) (srcOld (.tail (.tail (.tail (.tail (.tail (.head)))))) h0 hints (Nat.le_refl _)) (by simp [intsV, Value.oneCell']) (by unfold maxLen; omega) (by omega) fun v15 hv15 => ?_)
    simp only [Nat.zero_add, List.nil_append]
    refine At.formRow .head ?_
    rintro A7 c7 rfl _ _ _ _ _
    refine L.fa 6 rfl rfl rfl ?_
    refine L.st rfl rfl rfl rfl (by simp [nodeVals]) ?_
    refine L.nil ?_
    refine At.then ?_
    refine At.region ?_
    refine L.mv rfl rfl ?_
    refine L.val rfl (ev_loadN (vs := nodeCells nd (.slice A7 nd.after.length c7)) rfl rfl rfl rfl) (rowAll rfl) ?_
    refine L.op rfl (o_slices (m := 1) (z := .agg #[.int .i64 0, .int .i64 0, .int .i64 0, .int .i64 0, .int .i64 0, .int .i64 0, .slice none 0 0]) (size := 7) (ps := [(0, .tmp 18)]) (vs := [.agg (nodeCells nd (.slice A7 nd.after.length c7)).toArray]) (cs := (nodeCells nd (.slice A7 nd.after.length c7)).toArray) rfl rfl rfl rfl (by omega) (by omega) rfl (fill_node _ _) fun b19 => ?_)
    refine L.op rfl (o_append rfl rfl infoNode rfl (by omega) rfl rfl (.tail (.tail (.tail (.head)))) (news := nodeCells nd (.slice A7 nd.after.length c7)) rfl (fun h => by cases h) (srcIs (fun j u h => by simpa using h)) (by simp [nodeCells, Value.oneCell']) (by unfold maxLen; omega) (by omega) fun v4 hv4 => ?_)
    refine L.as rfl rfl ?_
    refine L.nil ?_
    refine At.inBlock (At.then ?_)
    refine At.region ?_
    refine L.pure rfl (ev_add rfl rfl (w64 (by omega))) ?_
    refine L.mv rfl rfl ?_
    refine L.nil ?_
    exact At.round (k + 1, vs ++ [.slice A7 nd.after.length c7], v4) ⟨by simp only; omega, by simp [hvs]⟩ (by simp only; omega) ⟨rfl, rfl, rfl, rfl, rfl, rfl, trivial⟩ (copy_snoc hvs hnd)
  ·
    obtain rfl : k = ns.length := by omega
    refine At.formRow .head ?_
    rintro A7 c7 rfl _ _ _ _ _
    refine At.exit ?_
    refine At.thenExit (At.roundExit (At.inBlockHit (At.then ?_)))
    refine At.seq ?_
    refine At.region ?_
    refine L.mv rfl rfl ?_
    refine L.fa 1 rfl rfl rfl ?_
    refine L.st rfl rfl rfl rfl (by first | decide | simp | (simp; omega)) ?_
    refine L.nil ?_
    refine At.then ?_
    refine At.seq ?_
    refine At.region ?_
    refine L.val rfl (ev_loadN (vs := [.int .i64 dl, .slice A7 ns.length c7]) rfl rfl rfl rfl) (rowAll rfl) ?_
    refine L.op rfl (o_storeN rfl (m := 2) (vs := [.int .i64 dl, .slice A7 ns.length c7]) rfl rfl rfl rfl (by simp [Value.oneCell']) (by simp) ?_)
    refine L.nil ?_
    refine At.then ?_
    refine At.ret ?_
    exact At.res1 [_] rfl (Res.cellN (vs := [.int .i64 dl, .slice A7 ns.length c7]) rfl rfl rfl rfl (rowAll rfl)) ⟨A7, c7, rfl, rfl⟩ (Ent.drop.trans (Ent.drop.trans (copy_close hvs)))
end Go.Proofs.YtagkobkmaigfcaaDoor
