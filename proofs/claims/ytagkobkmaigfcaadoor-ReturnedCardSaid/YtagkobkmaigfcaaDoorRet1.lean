/- The walks of flowkeeperkeep's pick, nth and flow. -/
import Derived.Test.YtagkobkmaigfcaaDoorPRet
import Derived.Test.YtagkobkmaigfcaaDoorEnc3
namespace Go.Proofs.YtagkobkmaigfcaaDoor
open Go Go.RowKit Go.SL
variable {G : Env → Prop}

theorem tdiv_i64 {x : Int} (h : i64 x) (d : Nat) (hd : 0 < d) : IntKind.i64.wrap (x.tdiv d) = x.tdiv d := by
  have h1 : (x.tdiv d).natAbs ≤ x.natAbs := by rw [Int.natAbs_tdiv]; exact Nat.div_le_self _ _
  unfold i64 at h
  refine w64 ?_
  have h2 : 0 ≤ x → 0 ≤ x.tdiv d := fun h => Int.tdiv_nonneg h (by omega)
  have h3 : x ≤ 0 → x.tdiv d ≤ 0 := fun h => by
    have := Int.tdiv_nonneg (a := -x) (b := d) (by omega) (by omega)
    rw [Int.neg_tdiv] at this
    omega
  constructor <;> omega
theorem tdiv_range {x : Int} (h : i64 x) (d : Nat) (hd : 0 < d) : i64 (x.tdiv d) := by
  have h1 : (x.tdiv d).natAbs ≤ x.natAbs := by rw [Int.natAbs_tdiv]; exact Nat.div_le_self _ _
  have h2 : 0 ≤ x → 0 ≤ x.tdiv d := fun h => Int.tdiv_nonneg h (by omega)
  have h3 : x ≤ 0 → x.tdiv d ≤ 0 := fun h => by
    have := Int.tdiv_nonneg (a := -x) (b := d) (by omega) (by omega)
    rw [Int.neg_tdiv] at this
    omega
  unfold i64 at h ⊢
  constructor <;> omega

set_option maxRecDepth 10000 in
theorem keep_pick (c : Int) (n : Nat) (hc : i64 c) (hn : 0 < n) (hn2 : n < 9223372036854775808) : Does Tryd.prog G 19 [.int .i64 c, .int .i64 n].toArray [] fun v m => ∃ k : Int, v = .int .i64 k ∧ (0 ≤ k ∧ k < n) ∧ m = [] := by
  have hc' := hc
  unfold i64 at hc'
  refine Does.body Tryd.func19 rfl rfl fun E fr hE => ?_
  refine At.app0 ?_
  refine At.seq ?_
  refine At.region ?_
  refine L.as rfl rfl ?_
  refine L.nil ?_
  refine At.then ?_
  refine At.seq (At.cut (X := Int) (fun x => [(0, .int .i64 x), (1, .int .i64 n)]) (fun _ => fr) (fun x => 0 ≤ x) ?_ ?_)
  ·
    refine At.seq ?_
    refine At.region ?_
    refine L.mv rfl rfl ?_
    refine L.pure rfl (ev_lss rfl rfl rfl) ?_
    refine L.nil ?_
    refine At.then ?_
    refine At.condD rfl (fun c6 => ?_) (fun c6 => ?_)
    ·
      refine At.region ?_
      refine L.mv rfl rfl ?_
      refine L.pure rfl (ev_add rfl rfl (w64 (by omega))) ?_
      refine L.pure rfl (ev_neg rfl (w64 (by omega))) ?_
      refine L.as rfl rfl ?_
      refine L.nil ?_
      exact At.meet _ (by omega) ⟨rfl, rfl, trivial⟩ (Ent.refl _)
    ·
      refine At.skip ?_
      exact At.meet c (by omega) ⟨rfl, rfl, trivial⟩ (Ent.refl _)
  intro x hx
  refine At.seq ?_
  refine At.region ?_
  refine L.mv rfl rfl ?_
  refine L.mv rfl rfl ?_
  refine L.pure rfl (ev_rem rfl rfl (by omega) rfl) ?_
  refine L.as rfl rfl ?_
  refine L.nil ?_
  refine At.then ?_
  refine At.ret ?_
  exact At.ret1 [] rfl rfl ⟨_, rfl, ⟨Int.tmod_nonneg _ hx, Int.tmod_lt_of_pos _ (by omega)⟩, rfl⟩ (Ent.refl _)

set_option maxRecDepth 10000 in
theorem keep_nth (A : Option Addr) (c : Nat) (xs : List Int) (i : Nat) (hi : i < 9223372036854775808) : Gives Tryd.prog G 36 [.slice A xs.length c, .int .i64 i].toArray (fun w => IntsAt w w.heap.size A c xs) fun v m => ∃ x : Int, v = .int .i64 x ∧ i64 x ∧ m = [] := by
  refine Gives.body Tryd.func36 rfl rfl fun E w0 hE h0 hN => ?_
  refine At.seq ?_
  refine At.region ?_
  refine L.as rfl rfl ?_
  refine L.nil ?_
  refine At.then ?_
  refine At.seq ?_
  refine At.seq ?_
  refine At.region ?_
  refine L.mv rfl rfl ?_
  refine L.mv rfl rfl ?_
  refine L.pure rfl (ev_lenS rfl rfl) ?_
  refine L.pure rfl (ev_lss rfl rfl rfl) ?_
  refine L.nil ?_
  refine At.then ?_
  refine At.condD rfl (fun c8 => ?_) (fun c8 => ?_)
  ·
    have hlt : i < xs.length := by omega
    obtain ⟨b, o, rfl, hb, hcell⟩ := hN.cells (by omega)
    obtain ⟨x, hx⟩ : ∃ x, xs[i]? = some x := ⟨xs[i], by simp [hlt]⟩
    refine At.seq ?_
    refine At.region ?_
    refine L.mv rfl rfl ?_
    refine L.mv rfl rfl ?_
    refine L.pure rfl (ev_ixN (z := 1) rfl rfl rfl rfl hlt) ?_
    refine L.val rfl (ev_load1 rfl rfl) (cellOld .head h0 (by simpa using hcell i x hx)) ?_
    refine L.as rfl rfl ?_
    refine L.nil ?_
    refine At.then ?_
    refine At.ret ?_
    refine At.thenRet ?_
    exact At.ret1 [] rfl rfl ⟨x, rfl, hN.rng x (List.mem_of_getElem? hx), rfl⟩ (Ent.refl _)
  ·
    refine At.skip ?_
    refine At.then ?_
    refine At.seq ?_
    refine At.region ?_
    refine L.as rfl rfl ?_
    refine L.nil ?_
    refine At.then ?_
    refine At.ret ?_
    exact At.ret1 [] rfl rfl ⟨0, rfl, by unfold i64; omega, rfl⟩ (Ent.refl _)

theorem low_snoc {ns : List FK.Node} {nd : FK.Node} (h : FK.Low ns) (h1 : FK.NodeOk nd) (h2 : FK.EdgesOk ns.length (-1) nd.after) : FK.Low (ns ++ [nd]) := fun i n hi => by
  rcases Nat.lt_or_ge i ns.length with hl | hl
  · rw [List.getElem?_append_left hl] at hi
    exact h i n hi
  · have : i = ns.length := by
      have := (List.getElem?_eq_some_iff.1 hi).1
      simp at this; omega
    subst this
    simp at hi
    subst hi
    exact ⟨h1, h2⟩

theorem intsLater {E : Env} {l r : List HP} {w0 : World} {B : Nat} {A : Option Addr} {c : Nat} {xs : List Int} (s : Sel (old E w0) l r) (h0 : E.is w0) (h : IntsAt w0 B A c xs) (hB : B ≤ w0.heap.size) : ∀ w, Holds E w l → IntsAt w w.heap.size A c xs :=
  oldAt s h0 fun _ hb => (h.keep (hb.to_same.mono hB)).more (Nat.le_trans hB hb.size)

theorem keep_snoc {v' : Value} {vs : List Value} {ns : List FK.Node} {u : Value} {nd : FK.Node} {b9 b86 b13 b8 o : HP} (h : vs.length = ns.length) :
    Ent (b9 :: row 32 7 v' (ns.length + 1) (nodesV ns vs ++ nodeCells nd u) :: b86 :: b13 :: intsAt u nd.after :: b8 :: o :: aftsAt vs ns) (b9 :: row 32 7 v' (ns ++ [nd]).length (nodesV (ns ++ [nd]) (vs ++ [u])) :: b8 :: o :: aftsAt (vs ++ [u]) (ns ++ [nd])) := by
  rw [aftsAt_snoc h, nodesV_snoc ns vs nd u h, show (ns ++ [nd]).length = ns.length + 1 by simp]
  refine Ent.cons (Ent.cons (Ent.drop.trans (Ent.drop.trans (Ent.perm ?_))))
  have h1 : ([intsAt u nd.after] ++ (b8 :: o :: aftsAt vs ns)).Perm ((b8 :: o :: aftsAt vs ns) ++ [intsAt u nd.after]) := List.perm_append_comm
  simpa using h1
theorem keep_close {v : Value} {vs : List Value} {ns : List FK.Node} {o : HP} (h : vs.length = ns.length) : Ent (row 32 7 v ns.length (nodesV ns vs) :: o :: aftsAt vs ns) ([nodesOwn v ns] ++ [o]) := by
  refine (Ent.perm ?_).trans (nodesOwn.ent (r := [o]) h)
  exact List.Perm.cons _ (List.perm_append_comm (l₁ := [o]) (l₂ := aftsAt vs ns))

set_option maxRecDepth 10000 in
set_option maxHeartbeats 1000000 in
theorem keep_flow (nodes deadline : Int) (hnodes : i64 nodes) (hdl : i64 deadline) (A1 A2 : Option Addr) (c1 c2 : Nat) (bits numbers : List Int) :
    Gives Tryd.prog G 17 [.int .i64 nodes, .slice A1 bits.length c1, .slice A2 numbers.length c2, .int .i64 deadline].toArray (fun w => IntsAt w w.heap.size A1 c1 bits ∧ IntsAt w w.heap.size A2 c2 numbers)
      fun v m => ∃ (dl : Int) (ns : List FK.Node) (A' : Option Addr) (c' : Nat), FK.span dl 1 ∧ 1 ≤ ns.length ∧ ns.length ≤ 12 ∧ FK.Low ns ∧ v = .agg #[.int .i64 dl, .slice A' ns.length c'] ∧ m = [nodesOwn (.slice A' ns.length c') ns] := by
  refine Gives.body Tryd.func17 rfl rfl fun E w0 hE h0 hN => ?_
  obtain ⟨hB, hM⟩ := hN
  refine At.seq ?_
  refine At.region ?_
  refine L.op rfl (o_alloc (z := .agg #[.int .i64 0, .slice none 0 0]) rfl rfl fun b8 => ?_)
  refine L.nil ?_
  refine At.then ?_
  refine At.seq ?_
  refine At.region ?_
  refine L.mv rfl rfl ?_
  refine L.op rfl (o_call rfl rfl rfl hE (keep_pick deadline 2000 hdl (by omega) (by omega)) (Ent.refl _) ?_)
  rintro v m ⟨k, rfl, ⟨hk0, hk1⟩, rfl⟩
  refine At.app0 ?_
  refine L.pure rfl (ev_add rfl rfl (w64 (by omega))) ?_
  refine L.pure rfl (ev_build (ps := [(0, .tmp 18)]) (vs := [.int .i64 (1 + k)]) (cs := #[.int .i64 (1 + k), .slice none 0 0]) rfl rfl rfl rfl rfl) ?_
  refine L.op rfl (o_alloc (z := .agg #[.int .i64 0, .slice none 0 0]) rfl rfl fun b9 => ?_)
  refine L.op rfl (o_storeN rfl (m := 2) (vs := [.int .i64 (1 + k), .slice none 0 0]) rfl rfl rfl rfl (by simp [Value.oneCell']) (by simp [Value.cells]) ?_)
  refine L.nil ?_
  refine At.then ?_
  refine At.seq ?_
  refine At.region ?_
  refine L.mv rfl rfl ?_
  refine L.op rfl (o_call rfl rfl rfl hE (keep_pick nodes 12 hnodes (by omega) (by omega)) (Ent.refl _) ?_)
  rintro v m ⟨n, rfl, ⟨hn0, hn1⟩, rfl⟩
  refine At.app0 ?_
  refine L.pure rfl (ev_add rfl rfl (w64 (by omega))) ?_
  refine L.as rfl rfl ?_
  refine L.nil ?_
  refine At.then ?_
  refine At.seq ?_
  refine At.seq ?_
  refine At.region ?_
  refine L.as rfl rfl ?_
  refine L.nil ?_
  refine At.then ?_
  refine At.block ?_
  refine At.loop (X := Nat × List FK.Node × List Value × Value) (fun x => [(11, .int .i64 x.1), (10, .int .i64 (1 + n)), (9, .pointer (some ⟨b9, 0, none⟩)), (8, .pointer (some ⟨b8, 0, none⟩)), (1, .slice A1 bits.length c1), (2, .slice A2 numbers.length c2)]) (fun x => blk b9 24 #[.int .i64 (1 + k), x.2.2.2] :: row 32 7 x.2.2.2 x.2.1.length (nodesV x.2.1 x.2.2.1) :: blk b8 24 #[.int .i64 0, .slice none 0 0] :: old E w0 :: aftsAt x.2.2.1 x.2.1) (fun x => (x.1 : Int) ≤ 1 + n ∧ x.2.1.length = x.1 ∧ x.2.2.1.length = x.2.1.length ∧ FK.Low x.2.1) (fun x => 13 - x.1) (0, [], [], .slice none 0 0) ⟨by simp; omega, rfl, rfl, fun i nd h => by simp at h⟩ ⟨rfl, rfl, rfl, rfl, rfl, rfl, trivial⟩ (Ent.cons Ent.row0) ?_
  rintro ⟨i, ns, vs, v9⟩ ⟨hi, hni, hvs, hlow⟩
  simp only at hi hni hvs hlow ⊢
  refine At.seq ?_
  refine At.seq ?_
  refine At.region ?_
  refine L.mv rfl rfl ?_
  refine L.mv rfl rfl ?_
  refine L.pure rfl (ev_lss rfl rfl rfl) ?_
  refine L.nil ?_
  refine At.then ?_
  refine At.condD rfl (fun c25 => ?_) (fun c25 => ?_)
  ·
    refine At.skip ?_
    refine At.then ?_
    refine At.seq ?_
    refine At.block ?_
    refine At.seq ?_
    refine At.region ?_
    refine L.mv rfl rfl ?_
    refine L.mv rfl rfl ?_
    refine L.op rfl (o_give rfl rfl rfl hE (keep_nth A2 c2 numbers i (by omega)) (intsLater (.tail (.tail (.tail (.head)))) h0 hM (Nat.le_refl _)) ?_)
    rintro v m ⟨x, rfl, hx, rfl⟩
    refine At.app0 ?_
    refine L.as rfl rfl ?_
    refine L.nil ?_
    refine At.then ?_
    refine At.seq ?_
    refine At.region ?_
    refine L.mv rfl rfl ?_
    refine L.op rfl (o_call rfl rfl rfl hE (keep_pick x 5 hx (by omega) (by omega)) (Ent.refl _) ?_)
    rintro v m ⟨k1, rfl, ⟨h10, h11⟩, rfl⟩
    refine At.app0 ?_
    refine L.pure rfl (ev_add rfl rfl (w64 (by omega))) ?_
    refine L.mv rfl rfl ?_
    refine L.pure rfl (ev_quo (r := x.tdiv 5) rfl rfl (by omega) (tdiv_i64 hx 5 (by omega))) ?_
    refine L.op rfl (o_call rfl rfl rfl hE (keep_pick _ 30 (tdiv_range hx 5 (by omega)) (by omega) (by omega)) (Ent.refl _) ?_)
    rintro v m ⟨k2, rfl, ⟨h20, h21⟩, rfl⟩
    refine At.app0 ?_
    refine L.pure rfl (ev_add rfl rfl (w64 (by omega))) ?_
    refine L.mv rfl rfl ?_
    refine L.pure rfl (ev_quo (r := x.tdiv 150) rfl rfl (by omega) (tdiv_i64 hx 150 (by omega))) ?_
    refine L.op rfl (o_call rfl rfl rfl hE (keep_pick _ 6 (tdiv_range hx 150 (by omega)) (by omega) (by omega)) (Ent.refl _) ?_)
    rintro v m ⟨k3, rfl, ⟨h30, h31⟩, rfl⟩
    refine At.app0 ?_
    refine L.pure rfl (ev_add rfl rfl (w64 (by omega))) ?_
    refine L.mv rfl rfl ?_
    refine L.pure rfl (ev_quo (r := x.tdiv 7) rfl rfl (by omega) (tdiv_i64 hx 7 (by omega))) ?_
    refine L.op rfl (o_call rfl rfl rfl hE (keep_pick _ 4 (tdiv_range hx 7 (by omega)) (by omega) (by omega)) (Ent.refl _) ?_)
    rintro v m ⟨k4, rfl, ⟨h40, h41⟩, rfl⟩
    refine At.app0 ?_
    refine L.pure rfl (ev_build (ps := [(0, .tmp 33), (1, .tmp 37), (3, .tmp 41), (5, .tmp 44)]) (vs := [.int .i64 (1 + k1), .int .i64 (1 + k2), .int .i64 (1 + k3), .int .i64 k4]) (cs := #[.int .i64 (1 + k1), .int .i64 (1 + k2), .int .i64 0, .int .i64 (1 + k3), .int .i64 0, .int .i64 k4, .slice none 0 0]) rfl rfl rfl rfl rfl) ?_
    refine L.op rfl (o_alloc (z := .agg #[.int .i64 0, .int .i64 0, .int .i64 0, .int .i64 0, .int .i64 0, .int .i64 0, .slice none 0 0]) rfl rfl fun b13 => ?_)
    refine L.op rfl (o_storeN rfl (m := 7) (vs := [.int .i64 (1 + k1), .int .i64 (1 + k2), .int .i64 0, .int .i64 (1 + k3), .int .i64 0, .int .i64 k4, .slice none 0 0]) rfl rfl rfl rfl (by simp [Value.oneCell']) (by simp [Value.cells]) ?_)
    rw [show setRow (Value.agg #[.int .i64 0, .int .i64 0, .int .i64 0, .int .i64 0, .int .i64 0, .int .i64 0, .slice none 0 0]).cells 0 [.int .i64 (1 + k1), .int .i64 (1 + k2), .int .i64 0, .int .i64 (1 + k3), .int .i64 0, .int .i64 k4, .slice none 0 0] = #[.int .i64 (1 + k1), .int .i64 (1 + k2), .int .i64 0, .int .i64 (1 + k3), .int .i64 0, .int .i64 k4, .slice none 0 0] from rfl]
    refine L.nil ?_
    refine At.then ?_
    refine At.seq ?_
    refine Dr.start rfl ?_
    refine Dr.p 0 rfl rfl (by kernel_rfl) (ev_field (off := 3) rfl rfl) ?_
    refine Dr.ld 1 rfl rfl (by kernel_rfl) (ev_load1 rfl rfl) (cellIs rfl) ?_
    refine Dr.p 2 rfl rfl (by kernel_rfl) (ev_move rfl) ?_
    refine Dr.p 3 rfl rfl (by kernel_rfl) (ev_quo (r := x.tdiv 11) rfl rfl (by omega) (tdiv_i64 hx 11 (by omega))) ?_
    refine Dr.run 4 rfl rfl (by kernel_rfl) (o_call rfl rfl rfl hE (keep_pick _ 20 (tdiv_range hx 11 (by omega)) (by omega) (by omega)) (Ent.refl _) ?_)
    rintro v m ⟨k5, rfl, ⟨h50, h51⟩, rfl⟩
    refine At.app0 ?_
    refine Dr.kept [true] (by kernel_rfl) (Kept.cons (cellIs rfl) Kept.nil) ?_
    refine Dr.p 5 rfl rfl (by kernel_rfl) (ev_add rfl rfl (w64 (by omega))) ?_
    refine Dr.p 6 rfl rfl (by kernel_rfl) (ev_field (off := 4) rfl rfl) ?_
    refine Dr.run 7 rfl rfl (by kernel_rfl) (o_store1 rfl rfl rfl rfl rfl (by first | decide | simp | (simp; omega)) ?_)
    refine Dr.kept [false] (by kernel_rfl) Kept.nil ?_
    refine Dr.done (by kernel_rfl) ?_
    refine At.then ?_
    refine At.seq (At.cut (X := Int) (fun _ => [(13, .pointer (some ⟨b13, 0, none⟩)), (11, .int .i64 i), (10, .int .i64 (1 + n)), (9, .pointer (some ⟨b9, 0, none⟩)), (8, .pointer (some ⟨b8, 0, none⟩)), (1, .slice A1 bits.length c1), (2, .slice A2 numbers.length c2)]) (fun be => blk b13 32 #[.int .i64 (1 + k1), .int .i64 (1 + k2), .int .i64 be, .int .i64 (1 + k3), .int .i64 (1 + k3 + k5), .int .i64 k4, .slice none 0 0] :: blk b9 24 #[.int .i64 (1 + k), v9] :: row 32 7 v9 ns.length (nodesV ns vs) :: blk b8 24 #[.int .i64 0, .slice none 0 0] :: old E w0 :: aftsAt vs ns) (fun be => 0 ≤ be ∧ be ≤ 20) ?_ ?_)
    ·
      refine At.seq ?_
      refine At.region ?_
      refine L.mv rfl rfl ?_
      refine L.pure rfl (ev_quo (r := x.tdiv 3) rfl rfl (by omega) (tdiv_i64 hx 3 (by omega))) ?_
      refine L.op rfl (o_call rfl rfl rfl hE (keep_pick _ 2 (tdiv_range hx 3 (by omega)) (by omega) (by omega)) (Ent.refl _) ?_)
      rintro v m ⟨k6, rfl, _, rfl⟩
      refine At.app0 ?_
      refine L.pure rfl (ev_eql rfl rfl rfl) ?_
      refine L.nil ?_
      refine At.then ?_
      refine At.condD rfl (fun c56 => ?_) (fun c56 => ?_)
      ·
        refine At.region ?_
        refine L.mv rfl rfl ?_
        refine L.pure rfl (ev_quo (r := x.tdiv 13) rfl rfl (by omega) (tdiv_i64 hx 13 (by omega))) ?_
        refine L.op rfl (o_call rfl rfl rfl hE (keep_pick _ 20 (tdiv_range hx 13 (by omega)) (by omega) (by omega)) (Ent.refl _) ?_)
        rintro v m ⟨k7, rfl, ⟨h70, h71⟩, rfl⟩
        refine At.app0 ?_
        refine L.pure rfl (ev_add rfl rfl (w64 (by omega))) ?_
        refine L.fa 2 rfl rfl rfl ?_
        refine L.st rfl rfl rfl rfl (by first | decide | simp | (simp; omega)) ?_
        refine L.nil ?_
        exact At.meet (1 + k7) (by omega) ⟨rfl, rfl, rfl, rfl, rfl, rfl, rfl, trivial⟩ (Ent.refl _)
      ·
        refine At.skip ?_
        exact At.meet 0 (by omega) ⟨rfl, rfl, rfl, rfl, rfl, rfl, rfl, trivial⟩ (Ent.refl _)
    rintro be ⟨hbe0, hbe1⟩
    refine At.seq ?_
    refine At.region ?_
    refine L.mv rfl rfl ?_
    refine L.mv rfl rfl ?_
    refine L.op rfl (o_give rfl rfl rfl hE (keep_nth A1 c1 bits i (by omega)) (intsLater (.tail (.tail (.tail (.tail (.head))))) h0 hB (Nat.le_refl _)) ?_)
    rintro v m ⟨bt, rfl, hbt, rfl⟩
    refine At.app0 ?_
    refine L.as rfl rfl ?_
    refine L.nil ?_
    refine At.then ?_
    refine At.seq ?_
    refine At.seq ?_
    refine At.region ?_
    refine L.as rfl rfl ?_
    refine L.nil ?_
    refine At.then ?_
    refine At.block ?_
    refine At.loop (X := Nat × List Int × Value) (fun x => [(15, .int .i64 x.1), (14, .int .i64 bt), (13, .pointer (some ⟨b13, 0, none⟩)), (11, .int .i64 i), (10, .int .i64 (1 + n)), (9, .pointer (some ⟨b9, 0, none⟩)), (8, .pointer (some ⟨b8, 0, none⟩)), (1, .slice A1 bits.length c1), (2, .slice A2 numbers.length c2)]) (fun x => blk b13 32 #[.int .i64 (1 + k1), .int .i64 (1 + k2), .int .i64 be, .int .i64 (1 + k3), .int .i64 (1 + k3 + k5), .int .i64 k4, x.2.2] :: intsAt x.2.2 x.2.1 :: blk b9 24 #[.int .i64 (1 + k), v9] :: row 32 7 v9 ns.length (nodesV ns vs) :: blk b8 24 #[.int .i64 0, .slice none 0 0] :: old E w0 :: aftsAt vs ns) (fun x => x.1 ≤ i ∧ FK.EdgesOk i (-1) x.2.1 ∧ (∀ y ∈ x.2.1, y < x.1) ∧ x.2.1.length ≤ x.1) (fun x => i - x.1) (0, [], .slice none 0 0) ⟨by simp, trivial, by simp, by simp⟩ ⟨rfl, rfl, rfl, rfl, rfl, rfl, rfl, rfl, rfl, trivial⟩ (Ent.cons Ent.row0) ?_
    rintro ⟨j, xs, v⟩ ⟨hj, he, hxs, hxl⟩
    simp only at hj he hxs hxl ⊢
    refine At.seq ?_
    refine At.seq ?_
    refine At.region ?_
    refine L.mv rfl rfl ?_
    refine L.mv rfl rfl ?_
    refine L.pure rfl (ev_lss rfl rfl rfl) ?_
    refine L.nil ?_
    refine At.then ?_
    refine At.condD rfl (fun c67 => ?_) (fun c67 => ?_)
    ·
      have hji : j < i := by omega
      refine At.skip ?_
      refine At.then ?_
      refine At.seq (At.cut (X := List Int × Value) (fun _ => [(15, .int .i64 j), (14, .int .i64 bt), (13, .pointer (some ⟨b13, 0, none⟩)), (11, .int .i64 i), (10, .int .i64 (1 + n)), (9, .pointer (some ⟨b9, 0, none⟩)), (8, .pointer (some ⟨b8, 0, none⟩)), (1, .slice A1 bits.length c1), (2, .slice A2 numbers.length c2)]) (fun x => blk b13 32 #[.int .i64 (1 + k1), .int .i64 (1 + k2), .int .i64 be, .int .i64 (1 + k3), .int .i64 (1 + k3 + k5), .int .i64 k4, x.2] :: intsAt x.2 x.1 :: blk b9 24 #[.int .i64 (1 + k), v9] :: row 32 7 v9 ns.length (nodesV ns vs) :: blk b8 24 #[.int .i64 0, .slice none 0 0] :: old E w0 :: aftsAt vs ns) (fun x => FK.EdgesOk i (-1) x.1 ∧ (∀ y ∈ x.1, y < j + 1) ∧ x.1.length ≤ j + 1) ?_ ?_)
      ·
        refine At.block ?_
        refine At.seq ?_
        refine At.region ?_
        refine L.mv rfl rfl ?_
        refine L.op rfl (o_call rfl rfl rfl hE (keep_pick bt 1048576 hbt (by omega) (by omega)) (Ent.refl _) ?_)
        rintro v m ⟨q, rfl, _, rfl⟩
        refine At.app0 ?_
        refine L.mv rfl rfl ?_
        refine L.pure rfl (ev_conv rfl rfl rfl (wu64 (by omega))) ?_
        refine L.pure rfl (ev_shr rfl rfl (by omega) rfl) ?_
        refine L.pure rfl (ev_and rfl rfl rfl) ?_
        refine L.pure rfl (ev_eql rfl rfl rfl) ?_
        refine L.nil ?_
        refine At.then ?_
        refine At.condD rfl (fun c76 => ?_) (fun c76 => ?_)
        ·
          refine At.region ?_
          refine L.fa 6 rfl rfl rfl ?_
          refine L.ld rfl rfl rfl rfl ?_
          refine L.mv rfl rfl ?_
          refine L.op rfl (o_slice1 (z := .int .i64 0) rfl rfl rfl rfl rfl rfl fun b80 => ?_)
          refine L.op rfl (o_append rfl rfl infoInt rfl (by omega) rfl rfl (.tail (.tail (.head))) (news := [.int .i64 j]) rfl (fun h => by cases h) (srcIs (fun j u h => by simpa using h)) (by simp [Value.oneCell']) (by unfold maxLen; omega) (by omega) fun v' hv' => ?_)
          refine At.formRow .head ?_
          rintro A7 c7 rfl _ _ _ _ _
          refine L.fa 6 rfl rfl rfl ?_
          refine L.st rfl rfl rfl rfl (by first | decide | simp | (simp; omega)) ?_
          refine L.nil ?_
          refine At.inBlock ?_
          exact At.meet (xs ++ [(j : Int)], .slice A7 (xs.length + 1) c7) ⟨he.snoc hxs (by omega) (by omega), fun y hy => (by rcases List.mem_append.1 hy with h | h; have := hxs y h; omega; simp at h; omega), by simp; omega⟩ ⟨rfl, rfl, rfl, rfl, rfl, rfl, rfl, rfl, rfl, trivial⟩ (by rw [intsAt_snoc]; exact Ent.cons (Ent.cons Ent.drop))
        ·
          refine At.skip ?_
          refine At.inBlock ?_
          exact At.meet (xs, v) ⟨he, fun y hy => (by have := hxs y hy; omega), by simp only; omega⟩ ⟨rfl, rfl, rfl, rfl, rfl, rfl, rfl, rfl, rfl, trivial⟩ (Ent.refl _)
      rintro ⟨ys, u⟩ ⟨hye, hys, hyl⟩
      simp only at hye hys hyl ⊢
      refine At.region ?_
      refine L.mv rfl rfl ?_
      refine L.pure rfl (ev_add rfl rfl (w64 (by omega))) ?_
      refine L.as rfl rfl ?_
      refine L.nil ?_
      exact At.round (j + 1, ys, u) ⟨by simp only; omega, hye, by simpa using hys, hyl⟩ (by simp only; omega) ⟨rfl, rfl, rfl, rfl, rfl, rfl, rfl, rfl, rfl, trivial⟩ (Ent.refl _)
    ·
      refine At.formRow (.tail (.head)) ?_
      rintro A8 c8 rfl _ _ _ _ _
      refine At.exit ?_
      refine At.thenExit (At.roundExit (At.inBlockHit (At.then ?_)))
      refine At.region ?_
      refine L.fa 1 rfl rfl rfl ?_
      refine L.ld rfl rfl rfl rfl ?_
      refine L.val rfl (ev_loadN (vs := nodeCells ⟨1 + k1, 1 + k2, be, 1 + k3, 1 + k3 + k5, k4, xs⟩ (.slice A8 xs.length c8)) rfl rfl rfl rfl) (rowAll rfl) ?_
      refine L.op rfl (o_slices (m := 1) (z := .agg #[.int .i64 0, .int .i64 0, .int .i64 0, .int .i64 0, .int .i64 0, .int .i64 0, .slice none 0 0]) (size := 7) (ps := [(0, .tmp 85)]) (vs := [.agg (nodeCells ⟨1 + k1, 1 + k2, be, 1 + k3, 1 + k3 + k5, k4, xs⟩ (.slice A8 xs.length c8)).toArray]) (cs := (nodeCells ⟨1 + k1, 1 + k2, be, 1 + k3, 1 + k3 + k5, k4, xs⟩ (.slice A8 xs.length c8)).toArray) rfl rfl rfl rfl (by omega) (by omega) rfl (fill_node _ _) fun b86 => ?_)
      refine L.op rfl (o_append rfl rfl infoNode rfl (by omega) rfl rfl (.tail (.tail (.tail (.tail (.head))))) (news := nodeCells ⟨1 + k1, 1 + k2, be, 1 + k3, 1 + k3 + k5, k4, xs⟩ (.slice A8 xs.length c8)) rfl (fun h => by cases h) (srcIs (fun j u h => by simpa using h)) (by simp [nodeCells, Value.oneCell']) (by unfold maxLen; omega) (by omega) fun v' hv' => ?_)
      refine At.formRow .head ?_
      rintro A9 c9 rfl _ _ _ _ _
      refine L.fa 1 rfl rfl rfl ?_
      refine L.st rfl rfl rfl rfl (by first | decide | simp | (simp; omega)) ?_
      refine L.nil ?_
      refine At.inBlock (At.then ?_)
      refine At.region ?_
      refine L.mv rfl rfl ?_
      refine L.pure rfl (ev_add rfl rfl (w64 (by omega))) ?_
      refine L.as rfl rfl ?_
      refine L.nil ?_
      exact At.round (i + 1, ns ++ [⟨1 + k1, 1 + k2, be, 1 + k3, 1 + k3 + k5, k4, xs⟩], vs ++ [.slice A8 xs.length c8], .slice A9 (ns.length + 1) c9) ⟨by simp only; omega, by simp [hni], by simp [hvs], low_snoc hlow (by unfold FK.NodeOk FK.span; simp only; omega) (by rw [hni]; exact he)⟩ (by simp only; omega) ⟨rfl, rfl, rfl, rfl, rfl, rfl, trivial⟩ (keep_snoc hvs)
  ·
    refine At.formRow (.tail (.head)) ?_
    rintro A9 c9 rfl _ _ _ _ _
    refine At.exit ?_
    refine At.thenExit (At.roundExit (At.inBlockHit (At.then ?_)))
    refine At.seq ?_
    refine At.region ?_
    refine L.val rfl (ev_loadN (vs := [.int .i64 (1 + k), .slice A9 ns.length c9]) rfl rfl rfl rfl) (rowAll rfl) ?_
    refine L.op rfl (o_storeN rfl (m := 2) (vs := [.int .i64 (1 + k), .slice A9 ns.length c9]) rfl rfl rfl rfl (by simp [Value.oneCell']) (by simp) ?_)
    refine L.nil ?_
    refine At.then ?_
    refine At.ret ?_
    exact At.res1 [_] rfl (Res.cellN (vs := [.int .i64 (1 + k), .slice A9 ns.length c9]) rfl rfl rfl rfl (rowAll rfl)) ⟨1 + k, ns, A9, c9, by unfold FK.span; omega, by omega, by omega, hlow, rfl, rfl⟩ (Ent.drop.trans (Ent.drop.trans (keep_close hvs)))
end Go.Proofs.YtagkobkmaigfcaaDoor
