/- The walks of flowkeeperkeep's pick, nth and flow. -/
import Derived.Test.YtmeegfamopaljaaGreatDoorEdD
import Derived.Test.YtmeegfamopaljaaGreatDoorEdX
import Derived.Test.YtmeegfamopaljaaGreatDoorEdW
import Derived.Test.YtmeegfamopaljaaGreatDoorEdU
namespace Go.Proofs.YtmeegfamopaljaaGreatDoor
open Go Go.RowKit Go.SL
variable {G : Env → Prop}
theorem iD {x : Int} (h : i64 x) (d : Nat) (hd : 0 < d) : IntKind.i64.wrap (x.tdiv d) = x.tdiv d := by
 have h1 : (x.tdiv d).natAbs ≤ x.natAbs := by rw [Int.natAbs_tdiv]; exact Nat.div_le_self _ _
 unfold i64 at h
 refine cT ?_
 have h2 : 0 ≤ x → 0 ≤ x.tdiv d := fun h => Int.tdiv_nonneg h (by omega)
 have h3 : x ≤ 0 → x.tdiv d ≤ 0 := fun h => by
  have := Int.tdiv_nonneg (a := -x) (b := d) (by omega) (by omega)
  rw [Int.neg_tdiv] at this
  omega
 constructor <;> omega
theorem fS {x : Int} (h : i64 x) (d : Nat) (hd : 0 < d) : i64 (x.tdiv d) := by
 have h1 : (x.tdiv d).natAbs ≤ x.natAbs := by rw [Int.natAbs_tdiv]; exact Nat.div_le_self _ _
 have h2 : 0 ≤ x → 0 ≤ x.tdiv d := fun h => Int.tdiv_nonneg h (by omega)
 have h3 : x ≤ 0 → x.tdiv d ≤ 0 := fun h => by
  have := Int.tdiv_nonneg (a := -x) (b := d) (by omega) (by omega)
  rw [Int.neg_tdiv] at this
  omega
 unfold i64 at h ⊢
 constructor <;> omega
set_option maxRecDepth 10000 in
theorem dt (c : Int) (n : Nat) (hc : i64 c) (hn : 0 < n) (hn2 : n < 9223372036854775808) : Does Tryz.prog G 19 [.int .i64 c, .int .i64 n].toArray [] fun v m => ∃ k : Int, v = .int .i64 k ∧ (0 ≤ k ∧ k < n) ∧ m = [] := by
 have hc' := hc
 unfold i64 at hc'
 refine Does.body Tryz.func19 Z Z fun E fr hE => ?_
 refine ay (At.seq (At.region (L.as Z Z (L.nil (At.then ?_)))))
 refine At.seq (At.cut (X := Int) (fun x => [(0, .int .i64 x), (1, .int .i64 n)]) (fun _ => fr) (fun x => 0 ≤ x) ?_ ?_)
 ·
  refine At.seq (At.region (L.mv Z Z (L.pure Z (bf Z Z Z) (L.nil (At.then ?_)))))
  refine aC Z (fun c6 => ?_) (fun c6 => ?_)
  ·
   refine At.region (L.mv Z Z ?_)
   refine L.pure Z (aO Z Z (cT (by omega))) ?_
   refine L.pure Z (yC Z (cT (by omega))) ?_
   refine L.as Z Z (L.nil ?_)
   exact bk _ (by omega) ⟨rfl, rfl, trivial⟩ (Ent.refl _)
  ·
   refine At.skip ?_
   exact bk c (by omega) ⟨rfl, rfl, trivial⟩ (Ent.refl _)
 intro x hx
 refine At.seq (At.region (L.mv Z Z (L.mv Z Z ?_)))
 refine L.pure Z (gO Z Z (by omega) Z) ?_
 refine L.as Z Z (L.nil (At.then (At.ret ?_)))
 exact aA [] rfl Z ⟨_, rfl, ⟨Int.tmod_nonneg _ hx, Int.tmod_lt_of_pos _ (by omega)⟩, rfl⟩ (Ent.refl _)
set_option maxRecDepth 10000 in
theorem rG (A : Option Addr) (c : Nat) (xs : List Int) (i : Nat) (hi : i < 9223372036854775808) : Gives Tryz.prog G 23 [.slice A xs.length c, .int .i64 i].toArray (fun w => IntsAt w w.heap.size A c xs) fun v m => ∃ x : Int, v = .int .i64 x ∧ i64 x ∧ m = [] := by
 refine Gives.body Tryz.func23 Z Z fun E w0 hE h0 hN => ?_
 refine At.seq (At.region (L.as Z Z (L.nil (At.then (At.seq (At.seq (At.region (L.mv Z Z (L.mv Z Z (L.pure Z (aP Z Z) (L.pure Z (bf Z Z Z) (L.nil (At.then ?_)))))))))))))
 refine aC Z (fun c8 => ?_) (fun c8 => ?_)
 ·
  have hlt : i < xs.length := by omega
  obtain ⟨b, o, rfl, hb, hcell⟩ := hN.cells (by omega)
  obtain ⟨x, hx⟩ : ∃ x, xs[i]? = some x := ⟨xs[i], by simp [hlt]⟩
  refine At.seq (At.region (L.mv Z Z (L.mv Z Z (L.pure Z (bD (z := 1) Z Z Z Z hlt) ?_))))
  refine L.val Z (aa Z Z) (vJ .head h0 (by simpa using hcell i x hx)) ?_
  refine L.as Z Z (L.nil (At.then (At.ret (aI ?_))))
  exact aA [] rfl Z ⟨x, rfl, hN.rng x (List.mem_of_getElem? hx), rfl⟩ (Ent.refl _)
 ·
  refine At.skip (At.then (At.seq (At.region (L.as Z Z (L.nil (At.then (At.ret ?_)))))))
  exact aA [] rfl Z ⟨0, rfl, by unfold i64; omega, rfl⟩ (Ent.refl _)
theorem zi {ns : List FK.Node} {nd : FK.Node} (h : FK.Low ns) (h1 : FK.cf nd) (h2 : FK.EdgesOk ns.length (-1) nd.after) : FK.Low (ns ++ [nd]) := fun i n hi => by
 rcases Nat.lt_or_ge i ns.length with hl | hl
 · rw [List.getElem?_append_left hl] at hi
   exact h i n hi
 · have : i = ns.length := by
    have := (List.getElem?_eq_some_iff.1 hi).1
    simp at this; omega
   subst this
   simp at hi
   subst hi
   exact ⟨h1, h2⟩
theorem jZ {E : Env} {l r : List HP} {w0 : World} {B : Nat} {A : Option Addr} {c : Nat} {xs : List Int} (s : Sel (old E w0) l r) (h0 : E.is w0) (h : IntsAt w0 B A c xs) (hB : B ≤ w0.heap.size) : ∀ w, Holds E w l → IntsAt w w.heap.size A c xs :=
 q8 s h0 fun _ hb => (h.keep (hb.to_same.mono hB)).more (Nat.le_trans hB hb.size)
theorem w9 {v' : Value} {vs : List Value} {ns : List FK.Node} {u : Value} {nd : FK.Node} {b9 b86 b13 b8 o : HP} (h : vs.length = ns.length) :
 Ent (b9 :: row 46 7 v' (ns.length + 1) (bl ns vs ++ aw nd u) :: b86 :: b13 :: bh u nd.after :: b8 :: o :: bB vs ns) (b9 :: row 46 7 v' (ns ++ [nd]).length (bl (ns ++ [nd]) (vs ++ [u])) :: b8 :: o :: bB (vs ++ [u]) (ns ++ [nd])) := by
 rw [jJ h, ii ns vs nd u h, show (ns ++ [nd]).length = ns.length + 1 by simp]
 refine Ent.cons (Ent.cons (Ent.drop.trans (Ent.drop.trans (Ent.perm ?_))))
 have h1 : ([bh u nd.after] ++ (b8 :: o :: bB vs ns)).Perm ((b8 :: o :: bB vs ns) ++ [bh u nd.after]) := List.perm_append_comm
 simpa using h1
theorem uk {v : Value} {vs : List Value} {ns : List FK.Node} {o : HP} (h : vs.length = ns.length) : Ent (row 46 7 v ns.length (bl ns vs) :: o :: bB vs ns) ([nodesOwn v ns] ++ [o]) := by
 refine (Ent.perm ?_).trans (nodesOwn.ent (r := [o]) h)
 exact List.Perm.cons _ (List.perm_append_comm (l₁ := [o]) (l₂ := bB vs ns))
set_option maxRecDepth 10000 in
set_option maxHeartbeats 1000000 in
theorem xa (nodes deadline : Int) (hnodes : i64 nodes) (hdl : i64 deadline) (A1 A2 : Option Addr) (c1 c2 : Nat) (bits numbers : List Int) :
 Gives Tryz.prog G 13 [.int .i64 nodes, .slice A1 bits.length c1, .slice A2 numbers.length c2, .int .i64 deadline].toArray (fun w => IntsAt w w.heap.size A1 c1 bits ∧ IntsAt w w.heap.size A2 c2 numbers)
  fun v m => ∃ (dl : Int) (ns : List FK.Node) (A' : Option Addr) (c' : Nat), FK.span dl 1 ∧ 1 ≤ ns.length ∧ ns.length ≤ 12 ∧ FK.Low ns ∧ v = .agg #[.int .i64 dl, .slice A' ns.length c'] ∧ m = [nodesOwn (.slice A' ns.length c') ns] := by
 refine Gives.body Tryz.func13 Z Z fun E w0 hE h0 hN => ?_
 obtain ⟨hB, hM⟩ := hN
 refine At.seq (At.region (L.op Z (aH (z := .agg #[.int .i64 0, .slice none 0 0]) Z Z fun b8 => (L.nil (At.then (At.seq (At.region (L.mv Z Z ?_))))))))
 refine L.op Z (ah Z Z Z hE (dt deadline 2000 hdl (by omega) (by omega)) (Ent.refl _) ?_)
 rintro v m ⟨k, rfl, ⟨hk0, hk1⟩, rfl⟩
 refine ay ?_
 refine L.pure Z (aO Z Z (cT (by omega))) ?_
 refine L.pure Z (bg (ps := [(0, .tmp 18)]) (vs := [.int .i64 (1 + k)]) (cs := #[.int .i64 (1 + k), .slice none 0 0]) Z Z Z Z Z) (L.op Z (aH (z := .agg #[.int .i64 0, .slice none 0 0]) Z Z fun b9 => ?_))
 refine L.op Z (aG Z (m := 2) (vs := [.int .i64 (1 + k), .slice none 0 0]) Z Z Z Z (by simp [Value.oneCell']) (by simp [Value.cells]) ?_)
 refine L.nil (At.then (At.seq (At.region (L.mv Z Z ?_))))
 refine L.op Z (ah Z Z Z hE (dt nodes 12 hnodes (by omega) (by omega)) (Ent.refl _) ?_)
 rintro v m ⟨n, rfl, ⟨hn0, hn1⟩, rfl⟩
 refine ay ?_
 refine L.pure Z (aO Z Z (cT (by omega))) ?_
 refine L.as Z Z (L.nil (At.then (At.seq (At.seq (At.region (L.as Z Z (L.nil (At.then (At.block ?_)))))))))
 refine aT (X := Nat × List FK.Node × List Value × Value) (fun x => [(11, .int .i64 x.1), (10, .int .i64 (1 + n)), (9, .pointer (some ⟨b9, 0, none⟩)), (8, .pointer (some ⟨b8, 0, none⟩)), (1, .slice A1 bits.length c1), (2, .slice A2 numbers.length c2)]) (fun x => blk b9 29 #[.int .i64 (1 + k), x.2.2.2] :: row 46 7 x.2.2.2 x.2.1.length (bl x.2.1 x.2.2.1) :: blk b8 29 #[.int .i64 0, .slice none 0 0] :: old E w0 :: bB x.2.2.1 x.2.1) (fun x => (x.1 : Int) ≤ 1 + n ∧ x.2.1.length = x.1 ∧ x.2.2.1.length = x.2.1.length ∧ FK.Low x.2.1) (fun x => 13 - x.1) (0, [], [], .slice none 0 0) ⟨by simp; omega, rfl, rfl, fun i nd h => by simp at h⟩ ⟨rfl, rfl, rfl, rfl, rfl, rfl, trivial⟩ (Ent.cons Ent.row0) ?_
 rintro ⟨i, ns, vs, v9⟩ ⟨hi, hni, hvs, hlow⟩
 simp only at hi hni hvs hlow ⊢
 refine At.seq (At.seq (At.region (L.mv Z Z (L.mv Z Z (L.pure Z (bf Z Z Z) (L.nil (At.then ?_)))))))
 refine aC Z (fun c25 => ?_) (fun c25 => ?_)
 ·
  refine At.skip (At.then (At.seq (At.block (At.seq (At.region (L.mv Z Z (L.mv Z Z ?_)))))))
  refine L.op Z (dC Z Z Z hE (rG A2 c2 numbers i (by omega)) (jZ (.tail (.tail (.tail (.head)))) h0 hM (Nat.le_refl _)) ?_)
  rintro v m ⟨x, rfl, hx, rfl⟩
  refine ay (L.as Z Z (L.nil (At.then (At.seq (At.region (L.mv Z Z ?_))))))
  refine L.op Z (ah Z Z Z hE (dt x 5 hx (by omega) (by omega)) (Ent.refl _) ?_)
  rintro v m ⟨k1, rfl, ⟨h10, h11⟩, rfl⟩
  refine ay ?_
  refine L.pure Z (aO Z Z (cT (by omega))) ?_
  refine L.mv Z Z ?_
  refine L.pure Z (kp (r := x.tdiv 5) Z Z (by omega) (iD hx 5 (by omega))) ?_
  refine L.op Z (ah Z Z Z hE (dt _ 30 (fS hx 5 (by omega)) (by omega) (by omega)) (Ent.refl _) ?_)
  rintro v m ⟨k2, rfl, ⟨h20, h21⟩, rfl⟩
  refine ay ?_
  refine L.pure Z (aO Z Z (cT (by omega))) ?_
  refine L.mv Z Z ?_
  refine L.pure Z (kp (r := x.tdiv 150) Z Z (by omega) (iD hx 150 (by omega))) ?_
  refine L.op Z (ah Z Z Z hE (dt _ 6 (fS hx 150 (by omega)) (by omega) (by omega)) (Ent.refl _) ?_)
  rintro v m ⟨k3, rfl, ⟨h30, h31⟩, rfl⟩
  refine ay ?_
  refine L.pure Z (aO Z Z (cT (by omega))) ?_
  refine L.mv Z Z ?_
  refine L.pure Z (kp (r := x.tdiv 7) Z Z (by omega) (iD hx 7 (by omega))) ?_
  refine L.op Z (ah Z Z Z hE (dt _ 4 (fS hx 7 (by omega)) (by omega) (by omega)) (Ent.refl _) ?_)
  rintro v m ⟨k4, rfl, ⟨h40, h41⟩, rfl⟩
  refine ay (L.pure Z (bg (ps := [(0, .tmp 33), (1, .tmp 37), (3, .tmp 41), (5, .tmp 44)]) (vs := [.int .i64 (1 + k1), .int .i64 (1 + k2), .int .i64 (1 + k3), .int .i64 k4]) (cs := #[.int .i64 (1 + k1), .int .i64 (1 + k2), .int .i64 0, .int .i64 (1 + k3), .int .i64 0, .int .i64 k4, .slice none 0 0]) Z Z Z Z Z) (L.op Z (aH (z := .agg #[.int .i64 0, .int .i64 0, .int .i64 0, .int .i64 0, .int .i64 0, .int .i64 0, .slice none 0 0]) Z Z fun b13 => ?_)))
  refine L.op Z (aG Z (m := 7) (vs := [.int .i64 (1 + k1), .int .i64 (1 + k2), .int .i64 0, .int .i64 (1 + k3), .int .i64 0, .int .i64 k4, .slice none 0 0]) Z Z Z Z (by simp [Value.oneCell']) (by simp [Value.cells]) ?_)
  rw [show eZ (Value.agg #[.int .i64 0, .int .i64 0, .int .i64 0, .int .i64 0, .int .i64 0, .int .i64 0, .slice none 0 0]).cells 0 [.int .i64 (1 + k1), .int .i64 (1 + k2), .int .i64 0, .int .i64 (1 + k3), .int .i64 0, .int .i64 k4, .slice none 0 0] = #[.int .i64 (1 + k1), .int .i64 (1 + k2), .int .i64 0, .int .i64 (1 + k3), .int .i64 0, .int .i64 k4, .slice none 0 0] from rfl]
  refine L.nil (At.then (At.seq (Dr.start Z (dP 0 Z Z (ab (off := 3) Z Z) (dL 1 Z Z (aa Z Z) (ae Z) (dP 2 Z Z (ag Z) ?_))))))
  refine dP 3 Z Z (kp (r := x.tdiv 11) Z Z (by omega) (iD hx 11 (by omega))) ?_
  refine dR 4 Z Z (ah Z Z Z hE (dt _ 20 (fS hx 11 (by omega)) (by omega) (by omega)) (Ent.refl _) ?_)
  rintro v m ⟨k5, rfl, ⟨h50, h51⟩, rfl⟩
  refine ay ?_
  refine Dr.kept [true] (by kernel_rfl) (Kept.cons (ae Z) Kept.nil) ?_
  refine dP 5 Z Z (aO Z Z (cT (by omega))) ?_
  refine dP 6 Z Z (ab (off := 4) Z Z) ?_
  refine dR 7 Z Z (bC Z Z Z Z Z (by first | decide | simp | (simp; omega)) ?_)
  refine Dr.kept [false] (by kernel_rfl) Kept.nil ?_
  refine dE (At.then ?_)
  refine At.seq (At.cut (X := Int) (fun _ => [(13, .pointer (some ⟨b13, 0, none⟩)), (11, .int .i64 i), (10, .int .i64 (1 + n)), (9, .pointer (some ⟨b9, 0, none⟩)), (8, .pointer (some ⟨b8, 0, none⟩)), (1, .slice A1 bits.length c1), (2, .slice A2 numbers.length c2)]) (fun be => blk b13 46 #[.int .i64 (1 + k1), .int .i64 (1 + k2), .int .i64 be, .int .i64 (1 + k3), .int .i64 (1 + k3 + k5), .int .i64 k4, .slice none 0 0] :: blk b9 29 #[.int .i64 (1 + k), v9] :: row 46 7 v9 ns.length (bl ns vs) :: blk b8 29 #[.int .i64 0, .slice none 0 0] :: old E w0 :: bB vs ns) (fun be => 0 ≤ be ∧ be ≤ 20) ?_ ?_)
  ·
   refine At.seq (At.region (L.mv Z Z ?_))
   refine L.pure Z (kp (r := x.tdiv 3) Z Z (by omega) (iD hx 3 (by omega))) ?_
   refine L.op Z (ah Z Z Z hE (dt _ 2 (fS hx 3 (by omega)) (by omega) (by omega)) (Ent.refl _) ?_)
   rintro v m ⟨k6, rfl, _, rfl⟩
   refine ay (L.pure Z (aV Z Z Z) (L.nil (At.then ?_)))
   refine aC Z (fun c56 => ?_) (fun c56 => ?_)
   ·
    refine At.region (L.mv Z Z ?_)
    refine L.pure Z (kp (r := x.tdiv 13) Z Z (by omega) (iD hx 13 (by omega))) ?_
    refine L.op Z (ah Z Z Z hE (dt _ 20 (fS hx 13 (by omega)) (by omega) (by omega)) (Ent.refl _) ?_)
    rintro v m ⟨k7, rfl, ⟨h70, h71⟩, rfl⟩
    refine ay ?_
    refine L.pure Z (aO Z Z (cT (by omega))) ?_
    refine aE 2 Z Z Z ?_
    refine L.st Z Z Z Z (by first | decide | simp | (simp; omega)) ?_
    refine L.nil ?_
    exact bk (1 + k7) (by omega) ⟨rfl, rfl, rfl, rfl, rfl, rfl, rfl, trivial⟩ (Ent.refl _)
   ·
    refine At.skip ?_
    exact bk 0 (by omega) ⟨rfl, rfl, rfl, rfl, rfl, rfl, rfl, trivial⟩ (Ent.refl _)
  rintro be ⟨hbe0, hbe1⟩
  refine At.seq (At.region (L.mv Z Z (L.mv Z Z ?_)))
  refine L.op Z (dC Z Z Z hE (rG A1 c1 bits i (by omega)) (jZ (.tail (.tail (.tail (.tail (.head))))) h0 hB (Nat.le_refl _)) ?_)
  rintro v m ⟨bt, rfl, hbt, rfl⟩
  refine ay (L.as Z Z (L.nil (At.then (At.seq (At.seq (At.region (L.as Z Z (L.nil (At.then (At.block ?_))))))))))
  refine aT (X := Nat × List Int × Value) (fun x => [(15, .int .i64 x.1), (14, .int .i64 bt), (13, .pointer (some ⟨b13, 0, none⟩)), (11, .int .i64 i), (10, .int .i64 (1 + n)), (9, .pointer (some ⟨b9, 0, none⟩)), (8, .pointer (some ⟨b8, 0, none⟩)), (1, .slice A1 bits.length c1), (2, .slice A2 numbers.length c2)]) (fun x => blk b13 46 #[.int .i64 (1 + k1), .int .i64 (1 + k2), .int .i64 be, .int .i64 (1 + k3), .int .i64 (1 + k3 + k5), .int .i64 k4, x.2.2] :: bh x.2.2 x.2.1 :: blk b9 29 #[.int .i64 (1 + k), v9] :: row 46 7 v9 ns.length (bl ns vs) :: blk b8 29 #[.int .i64 0, .slice none 0 0] :: old E w0 :: bB vs ns) (fun x => x.1 ≤ i ∧ FK.EdgesOk i (-1) x.2.1 ∧ (∀ y ∈ x.2.1, y < x.1) ∧ x.2.1.length ≤ x.1) (fun x => i - x.1) (0, [], .slice none 0 0) ⟨by simp, trivial, by simp, by simp⟩ ⟨rfl, rfl, rfl, rfl, rfl, rfl, rfl, rfl, rfl, trivial⟩ (Ent.cons Ent.row0) ?_
  rintro ⟨j, xs, v⟩ ⟨hj, he, hxs, hxl⟩
  simp only at hj he hxs hxl ⊢
  refine At.seq (At.seq (At.region (L.mv Z Z (L.mv Z Z (L.pure Z (bf Z Z Z) (L.nil (At.then ?_)))))))
  refine aC Z (fun c67 => ?_) (fun c67 => ?_)
  ·
   have hji : j < i := by omega
   refine At.skip (At.then ?_)
   refine At.seq (At.cut (X := List Int × Value) (fun _ => [(15, .int .i64 j), (14, .int .i64 bt), (13, .pointer (some ⟨b13, 0, none⟩)), (11, .int .i64 i), (10, .int .i64 (1 + n)), (9, .pointer (some ⟨b9, 0, none⟩)), (8, .pointer (some ⟨b8, 0, none⟩)), (1, .slice A1 bits.length c1), (2, .slice A2 numbers.length c2)]) (fun x => blk b13 46 #[.int .i64 (1 + k1), .int .i64 (1 + k2), .int .i64 be, .int .i64 (1 + k3), .int .i64 (1 + k3 + k5), .int .i64 k4, x.2] :: bh x.2 x.1 :: blk b9 29 #[.int .i64 (1 + k), v9] :: row 46 7 v9 ns.length (bl ns vs) :: blk b8 29 #[.int .i64 0, .slice none 0 0] :: old E w0 :: bB vs ns) (fun x => FK.EdgesOk i (-1) x.1 ∧ (∀ y ∈ x.1, y < j + 1) ∧ x.1.length ≤ j + 1) ?_ ?_)
   ·
    refine At.block (At.seq (At.region (L.mv Z Z ?_)))
    refine L.op Z (ah Z Z Z hE (dt bt 1048576 hbt (by omega) (by omega)) (Ent.refl _) ?_)
    rintro v m ⟨q, rfl, _, rfl⟩
    refine ay (L.mv Z Z ?_)
    refine L.pure Z (bq Z Z Z (wu64 (by omega))) ?_
    refine L.pure Z (ed Z Z (by omega) Z) ?_
    refine L.pure Z (p9 Z Z Z) (L.pure Z (aV Z Z Z) (L.nil (At.then ?_)))
    refine aC Z (fun c76 => ?_) (fun c76 => ?_)
    ·
     refine At.region (aE 6 Z Z Z (aX Z Z Z Z (L.mv Z Z (L.op Z (cK (z := .int .i64 0) Z Z Z Z Z Z fun b80 => ?_)))))
     refine L.op rfl (cj rfl rfl fy rfl (by omega) rfl rfl (.tail (.tail (.head))) (news := [.int .i64 j]) rfl (fun h => by cases h) (f6 (fun j u h => by simpa using h)) (by simp [Value.oneCell']) (by unfold maxLen; omega) (by omega) fun v' hv' => ?_)
     refine aJ .head ?_
     rintro A7 c7 rfl _ _ _ _ _
     refine aE 6 Z Z Z ?_
     refine L.st Z Z Z Z (by first | decide | simp | (simp; omega)) ?_
     refine L.nil (al ?_)
     exact bk (xs ++ [(j : Int)], .slice A7 (xs.length + 1) c7) ⟨he.snoc hxs (by omega) (by omega), fun y hy => (by rcases List.mem_append.1 hy with h | h; have := hxs y h; omega; simp at h; omega), by simp; omega⟩ ⟨rfl, rfl, rfl, rfl, rfl, rfl, rfl, rfl, rfl, trivial⟩ (by rw [mt]; exact Ent.cons (Ent.cons Ent.drop))
    ·
     refine At.skip (al ?_)
     exact bk (xs, v) ⟨he, fun y hy => (by have := hxs y hy; omega), by simp only; omega⟩ ⟨rfl, rfl, rfl, rfl, rfl, rfl, rfl, rfl, rfl, trivial⟩ (Ent.refl _)
   rintro ⟨ys, u⟩ ⟨hye, hys, hyl⟩
   simp only at hye hys hyl ⊢
   refine At.region (L.mv Z Z ?_)
   refine L.pure Z (aO Z Z (cT (by omega))) ?_
   refine L.as Z Z (L.nil ?_)
   exact At.round (j + 1, ys, u) ⟨by simp only; omega, hye, by simpa using hys, hyl⟩ (by simp only; omega) ⟨rfl, rfl, rfl, rfl, rfl, rfl, rfl, rfl, rfl, trivial⟩ (Ent.refl _)
  ·
   refine aJ (.tail (.head)) ?_
   rintro A8 c8 rfl _ _ _ _ _
   refine At.exit (au (ar (an (At.then (At.region (aE 1 Z Z Z (aX Z Z Z Z ?_)))))))
   refine L.val Z (am (vs := aw ⟨1 + k1, 1 + k2, be, 1 + k3, 1 + k3 + k5, k4, xs⟩ (.slice A8 xs.length c8)) Z Z Z Z) (av Z) ?_
   refine L.op Z (dT (m := 1) (z := .agg #[.int .i64 0, .int .i64 0, .int .i64 0, .int .i64 0, .int .i64 0, .int .i64 0, .slice none 0 0]) (size := 7) (ps := [(0, .tmp 85)]) (vs := [.agg (aw ⟨1 + k1, 1 + k2, be, 1 + k3, 1 + k3 + k5, k4, xs⟩ (.slice A8 xs.length c8)).toArray]) (cs := (aw ⟨1 + k1, 1 + k2, be, 1 + k3, 1 + k3 + k5, k4, xs⟩ (.slice A8 xs.length c8)).toArray) Z Z Z Z (by omega) (by omega) Z (lP _ _) fun b86 => ?_)
   refine L.op rfl (cj rfl rfl ny rfl (by omega) rfl rfl (.tail (.tail (.tail (.tail (.head))))) (news := aw ⟨1 + k1, 1 + k2, be, 1 + k3, 1 + k3 + k5, k4, xs⟩ (.slice A8 xs.length c8)) rfl (fun h => by cases h) (f6 (fun j u h => by simpa using h)) (by simp [aw, Value.oneCell']) (by unfold maxLen; omega) (by omega) fun v' hv' => ?_)
   refine aJ .head ?_
   rintro A9 c9 rfl _ _ _ _ _
   refine aE 1 Z Z Z ?_
   refine L.st Z Z Z Z (by first | decide | simp | (simp; omega)) ?_
   refine L.nil (al (At.then (At.region (L.mv Z Z ?_))))
   refine L.pure Z (aO Z Z (cT (by omega))) ?_
   refine L.as Z Z (L.nil ?_)
   exact At.round (i + 1, ns ++ [⟨1 + k1, 1 + k2, be, 1 + k3, 1 + k3 + k5, k4, xs⟩], vs ++ [.slice A8 xs.length c8], .slice A9 (ns.length + 1) c9) ⟨by simp only; omega, by simp [hni], by simp [hvs], zi hlow (by unfold FK.cf FK.span; simp only; omega) (by rw [hni]; exact he)⟩ (by simp only; omega) ⟨rfl, rfl, rfl, rfl, rfl, rfl, trivial⟩ (w9 hvs)
 ·
  refine aJ (.tail (.head)) ?_
  rintro A9 c9 rfl _ _ _ _ _
  refine At.exit (au (ar (an (At.then (At.seq (At.region (L.val Z (am (vs := [.int .i64 (1 + k), .slice A9 ns.length c9]) Z Z Z Z) (av Z) ?_)))))))
  refine L.op Z (aG Z (m := 2) (vs := [.int .i64 (1 + k), .slice A9 ns.length c9]) Z Z Z Z (by simp [Value.oneCell']) (by simp) ?_)
  refine L.nil (At.then (At.ret ?_))
  exact m2 [_] rfl (bU (vs := [.int .i64 (1 + k), .slice A9 ns.length c9]) Z Z Z Z (av Z)) ⟨1 + k, ns, A9, c9, by unfold FK.span; omega, by omega, by omega, hlow, rfl, rfl⟩ (Ent.drop.trans (Ent.drop.trans (uk hvs)))
end Go.Proofs.YtmeegfamopaljaaGreatDoor

namespace Go.Proofs.YtmeegfamopaljaaGreatDoor
open Go Go.RowKit Go.SL
variable {G : Env → Prop}
set_option maxRecDepth 10000 in
theorem t7 (c : Int) (n : Nat) (hc : i64 c) (hn : 0 < n) (hn2 : n < 9223372036854775808) : Does Tryz.prog G 130 [.int .i64 c, .int .i64 n].toArray [] fun v m => ∃ k : Int, v = .int .i64 k ∧ (0 ≤ k ∧ k < n) ∧ m = [] := by
 have hc' := hc
 unfold i64 at hc'
 refine Does.body Tryz.func130 Z Z fun E fr hE => ?_
 refine ay (At.seq (At.region (L.as Z Z (L.nil (At.then ?_)))))
 refine At.seq (At.cut (X := Int) (fun x => [(0, .int .i64 x), (1, .int .i64 n)]) (fun _ => fr) (fun x => 0 ≤ x) ?_ ?_)
 ·
  refine At.seq (At.region (L.mv Z Z (L.pure Z (bf Z Z Z) (L.nil (At.then ?_)))))
  refine aC Z (fun c6 => ?_) (fun c6 => ?_)
  ·
   refine At.region (L.mv Z Z ?_)
   refine L.pure Z (aO Z Z (cT (by omega))) ?_
   refine L.pure Z (yC Z (cT (by omega))) ?_
   refine L.as Z Z (L.nil ?_)
   exact bk _ (by omega) ⟨rfl, rfl, trivial⟩ (Ent.refl _)
  ·
   refine At.skip ?_
   exact bk c (by omega) ⟨rfl, rfl, trivial⟩ (Ent.refl _)
 intro x hx
 refine At.seq (At.region (L.mv Z Z (L.mv Z Z ?_)))
 refine L.pure Z (gO Z Z (by omega) Z) ?_
 refine L.as Z Z (L.nil (At.then (At.ret ?_)))
 exact aA [] rfl Z ⟨_, rfl, ⟨Int.tmod_nonneg _ hx, Int.tmod_lt_of_pos _ (by omega)⟩, rfl⟩ (Ent.refl _)
set_option maxRecDepth 10000 in
set_option maxHeartbeats 1000000 in
theorem uG {d : Nat} {σ : FK.Dsk} {kept part : Int} (hp : σ.pend = []) (hn : (σ.dur.map (·.1)).Nodup) (h2 : i64 part) : Does Tryz.prog G 81 [aL d, .int .i64 kept, .int .i64 part].toArray [ak d σ] fun v m => v = .tuple #[] ∧ ∃ now', now'.Perm σ.dur ∧ m = [ak d ⟨σ.dur, now', [], -1, -1, false⟩] := by
 obtain ⟨dur, now, pend, left, full, down⟩ := σ
 simp only at hp hn
 subst hp
 refine Does.body Tryz.func81 Z Z fun E fr hE => ?_
 refine ai ?_
 refine At.ex .head fun q => bn ?_
 obtain ⟨md, mn, pv, P⟩ := q
 refine At.ent (l' := blk d 131 #[.map (some md), .map (some mn), pv, .int .i64 left, .int .i64 full, .bool down] :: aS md P dur :: aS mn P now :: cW P :: row 211 3 pv 0 [] :: fr) (Ent.refl _) (aJ (.tail (.tail (.tail (.tail .head)))) ?_)
 rintro A c rfl - - - - -
 refine At.seq (At.region (L.mv Z Z (L.mv Z Z (aN Z Z (aE 2 Z Z Z (aX Z Z Z Z (L.pure Z (aP Z Z) (L.pure Z (aO (r := 1) Z Z Z) ?_))))))))
 refine L.op Z (ah Z Z Z hE (t7 part 1 h2 (by omega) (by omega)) (Ent.refl _) ?_)
 rintro v m ⟨k, rfl, -, rfl⟩
 refine ay (L.as Z Z (L.nil (At.then (At.seq (At.region (L.op Z (fT bG Z fun b18 => (L.as Z Z (L.nil (At.then (At.seq (At.seq (At.region (L.mv Z Z (aN Z Z (aE 2 Z Z Z (aX Z Z Z Z (L.pure Z (aP Z Z) (L.mv Z Z (L.nil ?_))))))))))))))))))))
 refine At.then (At.block ?_)
 refine aT (X := Nat) (fun _ => [(24, .int .i64 0), (23, .int .i64 0), (0, aL d)]) (fun _ => bF bG b18 [] :: blk d 131 #[.map (some md), .map (some mn), .slice A 0 c, .int .i64 left, .int .i64 full, .bool down] :: aS md P dur :: aS mn P now :: cW P :: row 211 3 (.slice A 0 c) 0 [] :: fr) (fun _ => True) (fun _ => 0) 0 trivial ⟨rfl, rfl, rfl, trivial⟩ (Ent.refl _) ?_
 intro k hk
 refine At.seq (At.region (L.pure Z (bf Z Z Z) (L.nil (At.then (At.seq (aj Z (At.exit (au (ar (an (At.then (At.seq (At.region (L.mv Z Z (L.mv Z Z (aN Z Z (aE 3 Z Z Z ?_)))))))))))))))))
 refine L.st Z Z Z Z (by first | decide | simp | (simp; omega)) ?_
 refine aN Z Z (aE 4 Z Z Z ?_)
 refine L.st Z Z Z Z (by first | decide | simp | (simp; omega)) ?_
 refine ax d #[.map (some md), .map (some mn), .slice A 0 c, .int .i64 (-1), .int .i64 (-1), .bool down] rfl (L.nil (At.then (At.region (L.mv Z Z (L.op Z (ah Z Z Z hE (vc hn) (Ent.cons (aK (.tail .head) (.tail (.tail .head)))) ?_))))))
 rintro v m ⟨rfl, now', hpn, rfl⟩
 refine ai (L.nil ?_)
 refine aZ [ak d ⟨dur, now', [], -1, -1, false⟩] rfl ⟨rfl, now', hpn, rfl⟩ ?_
 show Ent _ (ak d ⟨dur, now', [], -1, -1, false⟩ :: fr)
 exact ao
theorem sZ {d : Nat} {l : List (List UInt8)} {kept part : Int} (h2 : i64 part) : Does Tryz.prog G 81 [aL d, .int .i64 kept, .int .i64 part].toArray [ak d (FK.cY l 1)] fun v m => v = .tuple #[] ∧ m = [ak d (FK.cY l 1)] :=
 (uG (σ := FK.cY l 1) rfl (by simp [FK.cY]) h2).mono fun v m ⟨hv, now', hp, hm⟩ => ⟨m, ⟨hv, by
  have : now' = (FK.cY l 1).dur := List.perm_singleton.1 hp
  subst this
  exact hm⟩, Ent.refl _⟩
set_option maxRecDepth 10000 in
theorem uo {h f e j d : Nat} {p : EA} {S : FK.En} {J : FK.Jn} {l : List (List UInt8)} {kept part : Int} (h2 : i64 part) : Does Tryz.prog G 35 [aL h, .int .i64 kept, .int .i64 part].toArray (bW h f e j d p S J (FK.cY l 1)) fun v m => v = .tuple #[] ∧ m = [eJ h d none, ak d (FK.cY l 1)] := by
 refine Does.body Tryz.func35 Z Z fun E fr hE => ?_
 refine bV (At.seq (At.region (L.mv Z Z (aN Z Z (aE 1 Z Z Z ?_)))))
 refine L.st Z Z Z Z (by first | decide | simp | (simp; omega)) ?_
 refine ax h #[aL d, .pointer none] rfl (L.nil (At.then (At.region (L.mv Z Z (aN Z Z (aE 0 Z Z Z (aX Z Z Z Z (L.mv Z Z (L.mv Z Z (L.op Z (ah Z Z Z hE (sZ h2) (Ent.sel (.tail (.tail (.tail (.tail .head))))) ?_)))))))))))
 rintro v m ⟨rfl, rfl⟩
 refine ai (L.nil ?_)
 refine aZ [eJ h d none, ak d (FK.cY l 1)] rfl ⟨rfl, rfl⟩ ?_
 show Ent _ (eJ h d none :: ak d (FK.cY l 1) :: fr)
 exact ao
set_option maxRecDepth 10000 in
set_option maxHeartbeats 1000000 in
theorem sP {d : Nat} {l : List (List UInt8)} {U : FK.En} (hl : (FK.bH l).length ≤ 1000000000) (hR : FK.Reds FK.En.fresh l U) : Does Tryz.prog Good 63 [mI d].toArray [ak d (FK.cY l 1)] fun v m => ∃ f e j p, v = .tuple #[aL f, .nilIface] ∧ m = cE f e j d p U FK.J0 (FK.cY l 3) := by
 refine Does.body Tryz.func63 Z Z fun E fr hE => ?_
 refine ai (At.seq (At.region (L.as Z Z (L.as Z Z (L.nil (At.then (At.seq (At.region (L.op Z (ah Z Z Z hE vr (Ent.refl _) ?_))))))))))
 rintro v m ⟨e, p, rfl, rfl⟩
 refine ai (L.pure Z (bg (ps := [(0, .tmp 8)]) (vs := [aL e]) (cs := #[aL e, .pointer none]) Z Z Z Z Z) (L.op Z (cc Z Z fun b10 => (L.op Z (aH (z := .pointer none) Z Z fun b4 => ?_)))))
 refine L.st Z Z Z Z (by first | decide | simp | (simp; omega)) ?_
 refine ax b4 #[aL b10] rfl (ax b10 #[aL e, .pointer none] rfl (At.ent (l' := blk b4 116 #[aL b10] :: gj b10 e (.pointer none) :: ap e p FK.En.fresh :: ak d (FK.cY l 1) :: fr) ao (L.nil (At.then (At.seq (At.region (L.mv Z Z ?_)))))))
 refine L.pure Z (ea Z Z) ?_
 refine aX Z Z Z Z ?_
 refine L.pure Z (ea Z Z) ?_
 refine L.op Z (ah Z Z Z hE (sF _ hl hR) (bX (.tail (.tail (.tail .head))) (.tail .head) (.tail .head)) ?_)
 rintro v m ⟨j, p', rfl, rfl⟩
 refine dj (L.mv Z Z (L.ex Z Z Z (L.ex Z Z Z (L.as Z Z (L.as Z Z (L.nil (At.then (At.seq (At.seq (At.region (L.mv Z Z (L.pure Z (cb Z Z) (L.nil (At.then (aj Z (At.skip (At.then (At.seq (At.region ?_)))))))))))))))))))
 refine aX Z Z Z Z (L.mv Z Z (aN Z Z (aE 1 Z Z Z ?_)))
 refine L.st Z Z Z Z (by show 1 < 2; decide) ?_
 refine ax b10 #[aL e, aL j] rfl (At.ent (l' := aD j d FK.J0 :: dA b10 e j :: ak d (FK.cY l 3) :: ap e p' U :: blk b4 116 #[aL b10] :: fr) ao (L.nil (At.then (At.seq (At.seq (At.region (L.mv Z Z (L.op Z (ah Z Z Z hE pc (Ent.refl _) ?_)))))))))
 rintro v m ⟨rfl, rfl⟩
 refine ai (L.nil (At.then (aj Z (At.skip (At.then (At.seq (At.region (aX Z Z Z Z (L.as Z Z (L.as Z Z (L.nil (At.then (At.ret ?_)))))))))))))
 refine dd (cE b10 e j d p' U FK.J0 (FK.cY l 3)) Z Z Z ⟨b10, e, j, p', rfl, rfl⟩ ?_
 show Ent _ (dA b10 e j :: ap e p' U :: aD j d FK.J0 :: ak d (FK.cY l 3) :: fr)
 exact ao
set_option maxRecDepth 10000 in
set_option maxHeartbeats 1000000 in
theorem sK {h d : Nat} {l : List (List UInt8)} {U : FK.En} (hl : (FK.bH l).length ≤ 1000000000) (hR : FK.Reds FK.En.fresh l U) : Does Tryz.prog Good 28 [aL h, fo].toArray [eJ h d none, ak d (FK.cY l 1)] fun v m => v = .int .i64 0 ∧ ∃ f e j p, m = bW h f e j d p U FK.J0 (FK.cY l 1) := by
 refine Does.body Tryz.func28 Z Z fun E fr hE => ?_
 refine aF (At.seq (At.region (L.op Z (cc Z Z fun b3 => (L.as Z Z (L.nil (At.then (At.seq (At.region (L.mv Z Z (L.val Z (am (vs := bA (-1) (-1) 0 0) Z Z Z Z) (av Z) (L.op Z (ah Z Z Z hE (df (-1) (-1) 0 0) (aK (.tail .head) (.tail .head)) ?_)))))))))))))
 rintro v m ⟨rfl, rfl⟩
 refine aF ?_
 rw [jq (FK.gD l)]
 refine At.ent (l' := eJ h d none :: ak d (FK.cY l 1) :: blk b3 41 (bA (-1) (-1) 0 0).toArray :: fr) (by show Ent (_ :: _ :: blk b3 41 (bA (-1) (-1) 0 0).toArray :: _) _; exact ao) ?_
 refine L.nil (At.then (At.seq (At.region (L.mv Z Z (aN Z Z (aE 0 Z Z Z (aX Z Z Z Z (L.pure Z (cG Z Z Z) (L.op Z (ah Z Z Z hE (sP hl hR) (Ent.sel (.tail .head)) ?_))))))))))
 rintro v m ⟨f, e, j, p, rfl, rfl⟩
 refine dj (L.mv Z Z (L.ex Z Z Z (L.ex Z Z Z (L.as Z Z (L.as Z Z (L.nil (At.then (At.seq (At.region (L.mv Z Z (L.mv Z Z (aN Z Z (aE 1 Z Z Z ?_)))))))))))))
 refine L.st Z Z Z Z (by first | decide | simp | (simp; omega)) ?_
 refine ax h #[aL d, aL f] rfl (L.nil (At.then (At.seq (At.seq (At.region (L.mv Z Z (L.pure Z (cb Z Z) (L.nil (At.then (aj Z (At.skip (At.then (At.seq (At.ent (l' := bE h d f :: ak d (FK.cY l 3) :: dA f e j :: ap e p U :: aD j d FK.J0 :: blk b3 41 (bA (-1) (-1) 0 0).toArray :: fr) ao (At.region (L.mv Z Z (L.val Z (am (vs := bA (-1) (-1) 0 0) Z Z Z Z) (av Z) (L.op Z (ah Z Z Z hE (dz (σ := FK.cY l 3) (-1) (-1) 0 0 Z) (Ent.refl _) ?_)))))))))))))))))))
 rintro v m ⟨rfl, rfl⟩
 refine aF ?_
 rw [show (FK.cY l 3).rested = FK.cY l 1 from rfl]
 refine L.nil (At.then (At.seq (At.region (L.mv Z Z (L.op Z (ah Z Z Z hE fU (Ent.refl _) ?_))))))
 rintro v m ⟨rfl, rfl⟩
 refine ay (L.as Z Z (L.nil (At.then (At.ret ?_))))
 refine aA (bW h f e j d p U FK.J0 (FK.cY l 1)) Z Z ⟨rfl, f, e, j, p, rfl⟩ ?_
 show Ent _ (bE h d f :: dA f e j :: ap e p U :: aD j d FK.J0 :: ak d (FK.cY l 1) :: fr)
 exact ao
end Go.Proofs.YtmeegfamopaljaaGreatDoor

namespace Go.Proofs.YtmeegfamopaljaaGreatDoor
open Go Go.RowKit Go.SL
set_option maxRecDepth 10000 in
set_option maxHeartbeats 2000000 in
theorem li {h f e j d : Nat} {p : EA} {S : FK.En} {J : FK.Jn} {σ : FK.Dsk} {pb : HP} {A : Option Addr} {c : Nat} {bs : List UInt8} {fl : FK.Flow} (hS : FK.Ok S) (hJ : J.n < 1000000) (hb : J.broken = 0) (hr : Roomy σ) (hQ : FK.Quiet σ) (hp : Reads pb A bs) (hA : A = none → bs = []) (hl : bs.length ≤ 1000000000) (hd : FK.oO bs = .ok fl) (hfit : FK.Fit fl) (hroom : S.roomy = true) (hsets : S.sets < 9223372036854775807) (hlr : S.lastRun < 9223372036854775807) :
 Does Tryz.prog Good 21 [aL h, .slice A bs.length c, fo].toArray (bW h f e j d p S J σ ++ [pb]) fun v m => v = .tuple #[bc (S.lastRun + 1), .int .i64 0, .int .i64 (-1)] ∧ ∃ S0 p', FK.qX S S0 ∧ m = bW h f e j d p' (S0.submit fl) J (σ.logs J.n (cV (FK.frame (1 :: bs)))) ++ [pb] := by
 have hadd := hQ.add hb (cV (FK.frame (1 :: bs)))
 refine Does.body Tryz.func21 Z Z fun E fr hE => ?_
 refine m3 (At.seq (At.region (L.op Z (cc Z Z fun b5 => (L.as Z Z (L.as Z Z (L.as Z Z (L.nil (At.then (At.seq (At.seq (At.region (L.mv Z Z (aN Z Z (aE 1 Z Z Z (aX Z Z Z Z (L.pure Z (dg Z Z Z) (L.nil (At.then (aj Z ?_))))))))))))))))))))
 refine At.skip (At.then (At.seq (At.region (L.mv Z Z (L.val Z (am (vs := bA (-1) (-1) 0 0) Z Z Z Z) (av Z) (L.op Z (ah Z Z Z hE (df (-1) (-1) 0 0) (aK (.tail .head) (.tail (.tail (.tail (.tail .head))))) ?_)))))))
 rintro v m ⟨rfl, rfl⟩
 refine aF ?_
 rw [jq hQ]
 refine At.ent (l' := pb :: dA f e j :: ap e p S :: aD j d J :: ak d σ :: bE h d f :: blk b5 41 (bA (-1) (-1) 0 0).toArray :: fr) (by show Ent (_ :: _ :: blk b5 41 (bA (-1) (-1) 0 0).toArray :: _) _; exact ao) ?_
 refine L.nil (At.then (At.seq (At.region (L.mv Z Z (At.ent (Ent.row0 (e := 5) (size := 1)) ?_)))))
 refine L.op Z (cj (k := 0) (xs := []) Z Z gS Z (by omega) Z Z .head (news := bO bs) (by simp [bO]) (fun h => by rw [hA h]; rfl) (Reads.src hp (.tail .head)) (by simp [bO, Value.oneCell']) (by unfold maxLen; omega) (by omega) fun v24 hv24 => ?_)
 simp only [Nat.zero_add, List.nil_append]
 refine aJ .head ?_
 rintro A9 c9 rfl f1 f2 - - -
 obtain ⟨hreads, hnil⟩ := gZ f1 f2
 refine L.as Z Z (L.nil (At.then (At.seq (At.ent (l' := dA f e j :: ap e p S :: aD j d J :: ak d σ :: bM (.slice A9 bs.length c9) bs :: pb :: bE h d f :: blk b5 41 (bA (-1) (-1) 0 0).toArray :: fr) ao (At.region (L.mv Z Z (aN Z Z (aE 1 Z Z Z (aX Z Z Z Z (L.mv Z Z (L.op Z (ah Z Z Z hE (qM (pb := bM (.slice A9 bs.length c9) bs) hS hJ hr hreads hnil hl hd hfit hroom hsets hlr) (Ent.refl _) ?_))))))))))))
 rintro v m hv
 obtain ⟨S0, p', hcut, rfl, rfl⟩ : ∃ S0 p', FK.qX S S0 ∧ v = .tuple #[bc (S.lastRun + 1), .nilIface] ∧ m = cE f e j d p' (S0.submit fl) J (σ.logs J.n (cV (FK.frame (1 :: bs)))).spent ++ [bM (.slice A9 bs.length c9) bs] := by
  unfold jd at hv
  rw [hadd] at hv
  rcases hv with ⟨_, S0, p', h1, h2, h3⟩ | ⟨h1, _⟩
  · exact ⟨S0, p', h1, h2, h3⟩
  · exact absurd Z h1
 refine bV (L.mv Z Z (L.ex Z Z Z (L.ex Z Z Z (L.as Z Z (L.as Z Z (L.nil (At.then (At.seq (At.seq (At.region (L.mv Z Z (L.pure Z (aP Z Z) (L.mv Z Z (L.nil (At.then (At.block ?_))))))))))))))))
 refine aT (X := Nat × List Value) (fun x => [(36, .int .i64 x.1), (35, .int .i64 bs.length), (9, .slice A9 bs.length c9), (10, bc (S.lastRun + 1)), (11, .nilIface), (5, aL b5), (0, aL h)]) (fun x => row 5 1 (.slice A9 bs.length c9) bs.length x.2 :: dA f e j :: ap e p' (S0.submit fl) :: aD j d J :: ak d (σ.logs J.n (cV (FK.frame (1 :: bs)))).spent :: pb :: bE h d f :: blk b5 41 (bA (-1) (-1) 0 0).toArray :: fr) (fun x => x.1 ≤ bs.length) (fun x => bs.length - x.1) (0, bO bs) (Nat.zero_le _) ⟨rfl, rfl, rfl, rfl, rfl, rfl, rfl, trivial⟩ (Ent.sel (.tail (.tail (.tail (.tail .head))))) ?_
 rintro ⟨k, ys⟩ hk
 simp only at hk ⊢
 refine At.seq (At.region (L.pure Z (bf Z Z Z) (L.nil (At.then (At.seq ?_)))))
 refine aC Z (fun c37 => ?_) (fun c37 => ?_)
 ·
  have hlt : k < bs.length := by omega
  obtain ⟨g, rfl⟩ : ∃ g, A9 = some ⟨g, 0, none⟩ := by
   cases A9 with
   | none => have := (f1 rfl).1; omega
   | some ad => obtain ⟨g, rfl⟩ := f2 ad rfl; exact ⟨g, rfl⟩
  refine At.skip (At.then (At.seq (At.block (At.seq (At.region (L.mv Z Z (L.as Z Z (L.nil (At.then (At.region (L.mv Z Z (L.mv Z Z (L.pure Z (bD (z := 1) Z Z Z Z hlt) ?_)))))))))))))
  refine L.op Z (fd .head Z Z Z Z (by omega) ?_)
  refine L.nil (al (At.then (At.region ?_)))
  refine L.pure Z (aO (r := ((k + 1 : Nat) : Int)) Z Z (by rw [cT (by omega)]; omega)) ?_
  refine L.mv Z Z (L.nil ?_)
  exact At.round (k + 1, _) (by simp only; omega) (by simp only; omega) ⟨rfl, rfl, rfl, rfl, rfl, rfl, rfl, trivial⟩ (Ent.refl _)
 ·
  refine At.exit (au (ar (an (At.then (At.seq (At.ent (l' := bE h d f :: ak d (σ.logs J.n (cV (FK.frame (1 :: bs)))).spent :: dA f e j :: ap e p' (S0.submit fl) :: aD j d J :: pb :: blk b5 41 (bA (-1) (-1) 0 0).toArray :: fr) ao (At.region (L.mv Z Z (L.val Z (am (vs := bA (-1) (-1) 0 0) Z Z Z Z) (av Z) (L.op Z (ah Z Z Z hE (dz (σ := (σ.logs J.n (cV (FK.frame (1 :: bs)))).spent) (-1) (-1) 0 0 hQ.down) (Ent.refl _) ?_)))))))))))
  rintro v m ⟨rfl, rfl⟩
  refine aF ?_
  rw [qj (hQ.logs _ _)]
  refine L.nil (At.then (At.seq (At.region (L.mv Z Z (L.op Z (ah Z Z Z hE nl (Ent.refl _) ?_))))))
  rintro v m ⟨rfl, rfl⟩
  refine ay (L.mv Z Z (L.ex Z Z Z (L.ex Z Z Z (L.as Z Z (L.as Z Z (L.nil (At.then (At.seq (At.region (L.mv Z Z (L.mv Z Z (L.mv Z Z (L.as Z Z (L.as Z Z (L.as Z Z (L.nil (At.then (At.ret ?_))))))))))))))))))
  refine fW (bW h f e j d p' (S0.submit fl) J (σ.logs J.n (cV (FK.frame (1 :: bs)))) ++ [pb]) Z Z Z Z ⟨rfl, S0, p', hcut, rfl⟩ ?_
  show Ent _ (bE h d f :: dA f e j :: ap e p' (S0.submit fl) :: aD j d J :: ak d (σ.logs J.n (cV (FK.frame (1 :: bs)))) :: pb :: fr)
  exact ao
end Go.Proofs.YtmeegfamopaljaaGreatDoor

namespace FK
structure Dk (N : Nat) (σ : Dsk) : Prop where
 quiet : Quiet σ
 now : kD σ.now ≤ N
 dur : kD σ.dur ≤ N
theorem Dk.e0 : Dk 0 FK.e0 := ⟨nH, Nat.le_refl _, Nat.le_refl _⟩
theorem Dk.logs {N : Nat} {σ : Dsk} (h : Dk N σ) (n : Nat) {s : ByteArray} (hs : s.size ≤ 100000) : Dk (N + 100000) (σ.logs n s) := by
 have h1 := tj σ.now ⟨2, aW n, s⟩
 have h2 := tj σ.dur ⟨2, aW n, s⟩
 have h3 := h.now
 have h4 := h.dur
 refine ⟨h.quiet.logs n s, ?_, ?_⟩
 · show kD (cP σ.now ⟨2, aW n, s⟩) ≤ _
   simp only at h1
   omega
 · show kD (cP σ.dur ⟨2, aW n, s⟩) ≤ _
   simp only at h2
   omega
end FK
namespace Go.Proofs.YtmeegfamopaljaaGreatDoor
open Go Go.RowKit Go.SL
theorem fA {N : Nat} {σ : FK.Dsk} (h : FK.Dk N σ) (hN : N ≤ 1000000000000000) : Roomy σ := by
 have h1 := h.now
 have h2 := h.dur
 refine ⟨by omega, ?_, by rw [h.quiet.pend]; simp⟩
 rw [h.quiet.pend]
 simp [FK.gJ]
 omega
theorem gU {N : Nat} {σ : FK.Dsk} (h : FK.Dk N σ) (J : FK.Jn) (op : Nat) {n : Nat} (hn : n < 18446744073709551616) : FK.Dk (N + 100000) (cz σ J op n) := by
 refine h.logs J.n ?_
 have h1 := ew hn
 have h2 : (FK.aY op n).length ≤ 11 := by unfold FK.aY; simp; omega
 have h3 := j5 (FK.aY op n) (by omega)
 rw [jx]
 omega
theorem xz {N : Nat} {σ : FK.Dsk} (h : FK.Dk N σ) (n : Nat) {fl : FK.Flow} (hf : FK.Fit fl) : FK.Dk (N + 100000) (σ.logs n (cV (FK.frame (1 :: FK.bL fl)))) := by
 refine h.logs n ?_
 have h1 := hf.encLen
 have h3 := j5 (1 :: FK.bL fl) (by simp; omega)
 rw [jx]
 simp only [List.length_cons] at h3
 omega
theorem uw (n1 n2 : FK.Node) (v1 v2 : Value) (_h1 : v1.oneCell' = true) (_h2 : v2.oneCell' = true) : Instr.fill (fun i => some (i * 7, 7)) (Array.map (fun x => (Value.agg #[.int .i64 0, .int .i64 0, .int .i64 0, .int .i64 0, .int .i64 0, .int .i64 0, .slice none 0 0]).cells[x % (Value.agg #[.int .i64 0, .int .i64 0, .int .i64 0, .int .i64 0, .int .i64 0, .int .i64 0, .slice none 0 0]).cells.size]!) (Array.range (2 * 7)))
 ((List.map (fun x => x.1) [((0 : Nat), Operand.tmp 34), (1, .tmp 36)]).zip [Value.agg (aw n1 v1).toArray, Value.agg (aw n2 v2).toArray]) = some (bl [n1, n2] [v1, v2]).toArray := by
 have e1 : Array.range (2 * 7) = #[0, 1, 2, 3, 4, 5, 6, 7, 8, 9, 10, 11, 12, 13] := rfl
 rw [e1]
 simp [Instr.fill, aw, Value.cells, bl]
theorem zy {f : FK.Flow} (h : FK.Fit f) : lb f.nodes := ⟨by have := h.head.2.2; omega, fun nd db => by
 obtain ⟨i, hi⟩ := List.getElem?_of_mem db
 have := FK.ja _ _ (h.nodes i nd (FK.bx hi) hi).2
 have := h.head.2.2
 omega⟩
theorem uA {b37 b35 : Nat} {r : List HP} : Ent (blk b37 46 (bl FK.flow2.nodes [.slice none 0 0, .slice (some ⟨b35, 0, none⟩) 1 1]).toArray :: blk b35 3 #[.int .i64 0] :: r) (nodesOwn (.slice (some ⟨b37, 0, none⟩) 2 2) FK.flow2.nodes :: r) := by
 refine Ent.trans ?_ (nodesOwn.ent (ns := FK.flow2.nodes) (vs := [.slice none 0 0, .slice (some ⟨b35, 0, none⟩) 1 1]) Z)
 refine (Ent.cons ((el (b := b35) (xs := [0]) (by simp [maxLen])).trans (Ent.row0 (e := 3) (size := 1)))).trans ?_
 exact cq (Nat.le_refl _) (by simp [maxLen]) Z Z
section
variable {h f e j d : Nat} {p : EA} {σ : FK.Dsk} {N : Nat}
theorem AD (hD : FK.Dk N σ) (hN : N ≤ 1000000000) : Does Tryz.prog Good 24 [aL h, fo].toArray (bW h f e j d p FK.o1 FK.J0 σ) fun v m => v = .tuple #[jn 1 0 1 1, .bool true, .int .i64 0] ∧ m = bW h f e j d p FK.o2 FK.J0 (cz σ FK.J0 2 0) := by
 have := fi (h := h) (f := f) (e := e) (j := j) (d := d) (p := p) (J := FK.J0) (id := 1) (k := 0) (q := []) (R := (FK.pO 1 ⟨2, 0, 0⟩ ⟨1, 0, 0⟩ 0)) (s := ⟨2, 0, 0⟩) (nd := ⟨2, 9, 0, 3, 9, 0, []⟩) FK.o1_ok (by decide) rfl (fA hD (by omega)) hD.quiet rfl rfl rfl rfl (by decide) (by decide)
 rw [FK.xX] at this
 exact this
theorem AB (hD : FK.Dk N σ) (hN : N ≤ 1000000000) : Does Tryz.prog Good 24 [aL h, fo].toArray (bW h f e j d p FK.o4 FK.J0 σ) fun v m => v = .tuple #[jn 1 0 2 2, .bool true, .int .i64 0] ∧ m = bW h f e j d p FK.o5 FK.J0 (cz σ FK.J0 2 0) := by
 have := fi (h := h) (f := f) (e := e) (j := j) (d := d) (p := p) (J := FK.J0) (id := 1) (k := 0) (q := []) (R := (FK.pO 1 ⟨2, 1, 0⟩ ⟨1, 0, 0⟩ 0)) (s := ⟨2, 1, 0⟩) (nd := ⟨2, 9, 0, 3, 9, 0, []⟩) FK.o4_ok (by decide) rfl (fA hD (by omega)) hD.quiet rfl rfl rfl rfl (by decide) (by decide)
 rw [FK.xU] at this
 exact this
theorem AA (hD : FK.Dk N σ) (hN : N ≤ 1000000000) : Does Tryz.prog Good 24 [aL h, fo].toArray (bW h f e j d p FK.o6 FK.J0 σ) fun v m => v = .tuple #[jn 1 1 1 3, .bool true, .int .i64 0] ∧ m = bW h f e j d p FK.o7 FK.J0 (cz σ FK.J0 2 0) := by
 have := fi (h := h) (f := f) (e := e) (j := j) (d := d) (p := p) (J := FK.J0) (id := 1) (k := 1) (q := []) (R := (FK.pO 1 ⟨5, 2, 0⟩ ⟨2, 0, 0⟩ 0)) (s := ⟨2, 0, 0⟩) (nd := ⟨1, 9, 0, 1, 1, 0, [0]⟩) FK.o6_ok (by decide) rfl (fA hD (by omega)) hD.quiet rfl rfl rfl rfl (by decide) (by decide)
 rw [FK.xS] at this
 exact this
theorem o2_do (hD : FK.Dk N σ) (hN : N ≤ 1000000000) : Does Tryz.prog Good 25 [aL h, .int .i64 5, .int .u64 1, fo].toArray (bW h f e j d p FK.o2 FK.J0 σ) fun v m => v = .int .i64 0 ∧ m = bW h f e j d p FK.o3 FK.J0 (cz σ FK.J0 5 1) := by
 have := n9 (h := h) (f := f) (e := e) (j := j) (d := d) (p := p) (J := FK.J0) (t := 1) (P := ⟨1, 0, 0⟩) FK.o2_ok (by decide) (by decide) rfl (fA hD (by omega)) hD.quiet rfl (by decide) (by decide)
 rw [FK.xW] at this
 exact this
theorem o5_do (hD : FK.Dk N σ) (hN : N ≤ 1000000000) : Does Tryz.prog Good 25 [aL h, .int .i64 4, .int .u64 2, fo].toArray (bW h f e j d p FK.o5 FK.J0 σ) fun v m => v = .int .i64 0 ∧ m = bW h f e j d p FK.o6 FK.J0 (cz σ FK.J0 4 2) := by
 have := hO (h := h) (f := f) (e := e) (j := j) (d := d) (p := p) (J := FK.J0) (t := 2) (P := ⟨1, 0, 0⟩) FK.o5_ok (by decide) (by decide) rfl (fA hD (by omega)) hD.quiet rfl (by decide)
 rw [FK.xT] at this
 exact this
theorem o7_do (hD : FK.Dk N σ) (hN : N ≤ 1000000000) : Does Tryz.prog Good 25 [aL h, .int .i64 4, .int .u64 3, fo].toArray (bW h f e j d p FK.o7 FK.J0 σ) fun v m => v = .int .i64 0 ∧ m = bW h f e j d p FK.o8 FK.J0 (cz σ FK.J0 4 3) := by
 have := hO (h := h) (f := f) (e := e) (j := j) (d := d) (p := p) (J := FK.J0) (t := 3) (P := ⟨1, 1, 0⟩) FK.o7_ok (by decide) (by decide) rfl (fA hD (by omega)) hD.quiet rfl (by decide)
 rw [FK.xR] at this
 exact this
theorem AC (hD : FK.Dk N σ) (hN : N ≤ 1000000000) : Does Tryz.prog Good 25 [aL h, .int .i64 7, .int .u64 3, fo].toArray (bW h f e j d p FK.o3 FK.J0 σ) fun v m => v = .int .i64 0 ∧ m = bW h f e j d p FK.o4 FK.J0 (cz σ FK.J0 7 3) := by
 refine (n8 (h := h) (f := f) (e := e) (j := j) (d := d) (p := p) (J := FK.J0) (n := 3) FK.xV (by decide) (by decide) Z (fA hD (by omega)) hD.quiet (by decide) (by decide)).mono ?_
 rintro v m ⟨rfl, U, hU, rfl⟩
 rw [FK.o4_eq hU]
 exact ⟨_, ⟨rfl, rfl⟩, Ent.refl _⟩
end
def mS : FK.Dsk := cz (cz (cz (cz (cz (cz (cz (FK.e0.logs FK.J0.n (cV (FK.frame (1 :: FK.bL FK.flow2)))) FK.J0 2 0) FK.J0 5 1) FK.J0 7 3) FK.J0 2 0) FK.J0 4 2) FK.J0 2 0) FK.J0 4 3
set_option maxRecDepth 20000 in
set_option maxHeartbeats 4000000 in
theorem qG : Does Tryz.prog Good 17 [].toArray [] fun v m => ∃ h f e j d p, v = aL h ∧ m = bW h f e j d p FK.o8 FK.J0 mS := by
 refine Does.body Tryz.func17 Z Z fun E fr hE => ?_
 refine ay (At.seq (At.region (L.as Z Z (L.nil (At.then (At.seq (At.region (L.op Z (ah Z Z Z hE qJ (Ent.refl _) ?_)))))))))
 rintro v m ⟨h, d, rfl, rfl⟩
 refine aF (L.as Z Z (L.nil (At.then (At.seq (At.region (L.op Z (ah Z Z Z hE dV (Ent.refl _) ?_)))))))
 rintro v m ⟨rfl, rfl⟩
 refine ay (L.op Z (aH (z := .agg #[.int .i64 0, .int .i64 0, .int .i64 0, .int .i64 0]) Z Z fun b2 => ?_))
 refine L.op Z (aG Z (m := 4) (vs := bA (-1) (-1) 0 0) Z Z Z Z (by simp [Value.oneCell']) (by show 0 + 4 ≤ 4; omega) ?_)
 refine ax b2 (bA (-1) (-1) 0 0).toArray Z (L.nil (At.then (At.seq (At.region (L.mv Z Z (L.val Z (am (vs := bA (-1) (-1) 0 0) Z Z Z Z) (av Z) (L.op Z (ah Z Z Z hE (sL (h := h) (d := d)) (aK (.tail .head) (.tail .head)) ?_))))))))
 rintro v m ⟨rfl, f, e, j, p, rfl⟩
 refine bV (L.as Z Z (L.nil (At.then (At.seq (At.region ?_)))))
 refine L.pure Z (bg (ps := [(0, .const (.int .i64 2)), (1, .const (.int .i64 9)), (3, .const (.int .i64 3)), (4, .const (.int .i64 9))]) (vs := [.int .i64 2, .int .i64 9, .int .i64 3, .int .i64 9]) (cs := (aw ⟨2, 9, 0, 3, 9, 0, []⟩ (.slice none 0 0)).toArray) Z Z Z Z Z) ?_
 refine L.op Z (cK Z Z Z Z Z Z fun b35 => ?_)
 refine L.pure Z (bg (ps := [(0, .const (.int .i64 1)), (1, .const (.int .i64 9)), (3, .const (.int .i64 1)), (4, .const (.int .i64 1)), (6, .tmp 35)]) (vs := [.int .i64 1, .int .i64 9, .int .i64 1, .int .i64 1, .slice (some ⟨b35, 0, none⟩) 1 1]) (cs := (aw ⟨1, 9, 0, 1, 1, 0, [0]⟩ (.slice (some ⟨b35, 0, none⟩) 1 1)).toArray) Z Z Z Z Z) ?_
 refine L.op Z (dT (m := 2) (z := .agg #[.int .i64 0, .int .i64 0, .int .i64 0, .int .i64 0, .int .i64 0, .int .i64 0, .slice none 0 0]) (size := 7) (ps := [(0, .tmp 34), (1, .tmp 36)]) (vs := [.agg (aw ⟨2, 9, 0, 3, 9, 0, []⟩ (.slice none 0 0)).toArray, .agg (aw ⟨1, 9, 0, 1, 1, 0, [0]⟩ (.slice (some ⟨b35, 0, none⟩) 1 1)).toArray]) (cs := (bl FK.flow2.nodes [.slice none 0 0, .slice (some ⟨b35, 0, none⟩) 1 1]).toArray) Z Z Z Z (by omega) (by omega) Z (uw _ _ _ _ Z Z) fun b37 => ?_)
 refine At.ent (uA (b37 := b37) (b35 := b35)) ?_
 refine L.pure Z (bg (ps := [(0, .const (.int .i64 100)), (1, .tmp 37)]) (vs := [.int .i64 100, .slice (some ⟨b37, 0, none⟩) 2 2]) (cs := #[.int .i64 100, .slice (some ⟨b37, 0, none⟩) 2 2]) Z Z Z Z Z) ?_
 refine L.op Z (dC Z Z Z hE (lf 100 FK.flow2.nodes (some ⟨b37, 0, none⟩) 2 (zy FK.flow2_fit)) (nodesOwn.at (c := 2) (ns := FK.flow2.nodes) .head (j6 FK.flow2_fit)) ?_)
 rintro v m hv
 obtain ⟨bv, rfl, rfl⟩ : ∃ bv, v = .tuple #[bv, .int .i64 0, .int .i64 (-1)] ∧ m = [bM bv (FK.bL FK.flow2)] := by
  rcases hv with ⟨_, h⟩ | ⟨h, _⟩
  · exact h
  · exact absurd (by rw [show (⟨100, FK.flow2.nodes⟩ : FK.Flow) = FK.flow2 from Z, FK.flow2_fit.chk]) h
 refine ai (aJ .head ?_)
 rintro A4 c4 rfl f1 f2 - - -
 obtain ⟨hreads, hnil⟩ := gZ f1 f2
 refine At.ent (l' := bE h d f :: dA f e j :: ap e p FK.En.fresh :: aD j d FK.J0 :: ak d FK.e0 :: bM (.slice A4 (FK.bL FK.flow2).length c4) (FK.bL FK.flow2) :: blk b2 41 (bA (-1) (-1) 0 0).toArray :: fr) ao (L.mv Z Z (L.ex Z Z Z (L.ex Z Z Z (L.ex Z Z Z (L.as Z Z (L.as Z Z (L.as Z Z (L.nil (At.then (At.seq (At.region (L.mv Z Z (L.mv Z Z (L.val Z (am (vs := bA (-1) (-1) 0 0) Z Z Z Z) (av Z) ?_))))))))))))))
 refine L.op Z (ah Z Z Z hE (li (h := h) (f := f) (e := e) (j := j) (d := d) (p := p) (J := FK.J0) (σ := FK.e0) (bs := FK.bL FK.flow2) (fl := FK.flow2) FK.Ok.fresh (by decide) Z (fA FK.Dk.e0 (by omega)) FK.nH hreads hnil (by have := FK.flow2_fit.encLen; omega) (FK.mY FK.flow2_fit) FK.flow2_fit Z (by decide) (by decide)) (Ent.refl _) ?_)
 rintro v m ⟨rfl, S0, p', hcut, rfl⟩
 refine m3 ?_
 obtain rfl := FK.cut0 hcut
 rw [FK.Bq]
 clear hcut
 obtain ⟨σ1, hσ1⟩ : ∃ σ, σ = FK.e0.logs FK.J0.n (cV (FK.frame (1 :: FK.bL FK.flow2))) := ⟨_, rfl⟩
 rw [← hσ1]
 have hDσ1 : FK.Dk 100000 σ1 := hσ1 ▸ xz FK.Dk.e0 0 FK.flow2_fit
 refine At.ent (l' := bE h d f :: dA f e j :: ap e p' FK.o1 :: aD j d FK.J0 :: ak d σ1 :: blk b2 41 (bA (-1) (-1) 0 0).toArray :: fr) ao (L.mv Z Z (L.ex Z Z Z (L.ex Z Z Z (L.ex Z Z Z (L.as Z Z (L.as Z Z (L.as Z Z (L.nil (At.then (At.seq (At.region (L.mv Z Z (L.val Z (am (vs := bA (-1) (-1) 0 0) Z Z Z Z) (av Z) ?_)))))))))))))
 refine L.op Z (ah Z Z Z hE (AD hDσ1 (by omega)) (Ent.refl _) ?_)
 rintro v m ⟨rfl, rfl⟩
 refine bV ?_
 obtain ⟨σ2, hnσ2⟩ : ∃ σ, σ = cz σ1 FK.J0 2 0 := ⟨_, rfl⟩
 rw [← hnσ2]
 have hDσ2 : FK.Dk 200000 σ2 := hnσ2 ▸ gU hDσ1 FK.J0 2 (by decide)
 refine L.mv Z Z (L.ex Z Z Z (L.ex Z Z Z (L.ex Z Z Z (L.op Z (aH (z := .agg #[.int .u64 0, .int .i64 0, .int .i64 0, .int .u64 0]) Z Z fun b10 => ?_)))))
 refine L.op Z (aG Z (m := 4) (vs := bo 1 0 1 1) Z Z Z Z (by simp [Value.oneCell']) (by show 0 + 4 ≤ 4; omega) ?_)
 refine ax b10 (bo 1 0 1 1).toArray Z (At.ent (l' := bE h d f :: dA f e j :: ap e p' FK.o2 :: aD j d FK.J0 :: ak d σ2 :: blk b10 55 (bo 1 0 1 1).toArray :: blk b2 41 (bA (-1) (-1) 0 0).toArray :: fr) ao (L.as Z Z (L.as Z Z (L.nil (At.then (At.seq (At.region (L.mv Z Z (L.val Z (am (vs := bA (-1) (-1) 0 0) Z Z Z Z) (av Z) (L.op Z (ah Z Z Z hE (ij hDσ2.quiet Z) (Ent.refl _) ?_)))))))))))
 rintro v m ⟨rfl, rfl⟩
 refine bV (L.mv Z Z (L.ex Z Z Z (L.ex Z Z Z (L.ex Z Z Z (L.op Z (aH (z := .agg #[.int .u64 0, .int .i64 0, .int .i64 0, .int .u64 0]) Z Z fun b13 => ?_))))))
 refine L.op Z (aG Z (m := 4) (vs := bo 0 0 0 0) Z Z Z Z (by simp [Value.oneCell']) (by show 0 + 4 ≤ 4; omega) ?_)
 refine ax b13 (bo 0 0 0 0).toArray Z (At.ent (l' := bE h d f :: dA f e j :: ap e p' FK.o2 :: aD j d FK.J0 :: ak d σ2 :: blk b10 55 (bo 1 0 1 1).toArray :: blk b2 41 (bA (-1) (-1) 0 0).toArray :: fr) ao (L.as Z Z (L.as Z Z (L.nil (At.then (At.seq (At.region (L.mv Z Z (aE 3 Z Z Z (aX Z Z Z Z (L.val Z (am (vs := bA (-1) (-1) 0 0) Z Z Z Z) (av Z) ?_)))))))))))
 refine L.op Z (ah Z Z Z hE (o2_do hDσ2 (by omega)) (Ent.refl _) ?_)
 rintro v m ⟨rfl, rfl⟩
 refine bV ?_
 obtain ⟨σ3, hnσ3⟩ : ∃ σ, σ = cz σ2 FK.J0 5 1 := ⟨_, rfl⟩
 rw [← hnσ3]
 have hDσ3 : FK.Dk 300000 σ3 := hnσ3 ▸ gU hDσ2 FK.J0 5 (by decide)
 refine L.as Z Z (L.nil (At.then (At.seq (At.region (L.mv Z Z (L.val Z (am (vs := bA (-1) (-1) 0 0) Z Z Z Z) (av Z) ?_))))))
 refine L.op Z (ah Z Z Z hE (AC hDσ3 (by omega)) (Ent.refl _) ?_)
 rintro v m ⟨rfl, rfl⟩
 refine bV ?_
 obtain ⟨σ4, hnσ4⟩ : ∃ σ, σ = cz σ3 FK.J0 7 3 := ⟨_, rfl⟩
 rw [← hnσ4]
 have hDσ4 : FK.Dk 400000 σ4 := hnσ4 ▸ gU hDσ3 FK.J0 7 (by decide)
 refine L.as Z Z (L.nil (At.then (At.seq (At.region (L.mv Z Z (L.val Z (am (vs := bA (-1) (-1) 0 0) Z Z Z Z) (av Z) ?_))))))
 refine L.op Z (ah Z Z Z hE (AB hDσ4 (by omega)) (Ent.refl _) ?_)
 rintro v m ⟨rfl, rfl⟩
 refine bV ?_
 obtain ⟨σ5, hnσ5⟩ : ∃ σ, σ = cz σ4 FK.J0 2 0 := ⟨_, rfl⟩
 rw [← hnσ5]
 have hDσ5 : FK.Dk 500000 σ5 := hnσ5 ▸ gU hDσ4 FK.J0 2 (by decide)
 refine L.mv Z Z (L.ex Z Z Z (L.ex Z Z Z (L.ex Z Z Z (L.op Z (aH (z := .agg #[.int .u64 0, .int .i64 0, .int .i64 0, .int .u64 0]) Z Z fun b18 => ?_)))))
 refine L.op Z (aG Z (m := 4) (vs := bo 1 0 2 2) Z Z Z Z (by simp [Value.oneCell']) (by show 0 + 4 ≤ 4; omega) ?_)
 refine ax b18 (bo 1 0 2 2).toArray Z (At.ent (l' := bE h d f :: dA f e j :: ap e p' FK.o5 :: aD j d FK.J0 :: ak d σ5 :: blk b18 55 (bo 1 0 2 2).toArray :: blk b10 55 (bo 1 0 1 1).toArray :: blk b2 41 (bA (-1) (-1) 0 0).toArray :: fr) ao (L.as Z Z (L.as Z Z (L.nil (At.then (At.seq (At.region (L.mv Z Z (aE 3 Z Z Z (aX Z Z Z Z (L.val Z (am (vs := bA (-1) (-1) 0 0) Z Z Z Z) (av Z) ?_)))))))))))
 refine L.op Z (ah Z Z Z hE (o5_do hDσ5 (by omega)) (Ent.refl _) ?_)
 rintro v m ⟨rfl, rfl⟩
 refine bV ?_
 obtain ⟨σ6, hnσ6⟩ : ∃ σ, σ = cz σ5 FK.J0 4 2 := ⟨_, rfl⟩
 rw [← hnσ6]
 have hDσ6 : FK.Dk 600000 σ6 := hnσ6 ▸ gU hDσ5 FK.J0 4 (by decide)
 refine L.as Z Z (L.nil (At.then (At.seq (At.region (L.mv Z Z (L.val Z (am (vs := bA (-1) (-1) 0 0) Z Z Z Z) (av Z) ?_))))))
 refine L.op Z (ah Z Z Z hE (AA hDσ6 (by omega)) (Ent.refl _) ?_)
 rintro v m ⟨rfl, rfl⟩
 refine bV ?_
 obtain ⟨σ7, hnσ7⟩ : ∃ σ, σ = cz σ6 FK.J0 2 0 := ⟨_, rfl⟩
 rw [← hnσ7]
 have hDσ7 : FK.Dk 700000 σ7 := hnσ7 ▸ gU hDσ6 FK.J0 2 (by decide)
 refine L.mv Z Z (L.ex Z Z Z (L.ex Z Z Z (L.ex Z Z Z (L.op Z (aH (z := .agg #[.int .u64 0, .int .i64 0, .int .i64 0, .int .u64 0]) Z Z fun b22 => ?_)))))
 refine L.op Z (aG Z (m := 4) (vs := bo 1 1 1 3) Z Z Z Z (by simp [Value.oneCell']) (by show 0 + 4 ≤ 4; omega) ?_)
 refine ax b22 (bo 1 1 1 3).toArray Z (At.ent (l' := bE h d f :: dA f e j :: ap e p' FK.o7 :: aD j d FK.J0 :: ak d σ7 :: blk b22 55 (bo 1 1 1 3).toArray :: blk b18 55 (bo 1 0 2 2).toArray :: blk b10 55 (bo 1 0 1 1).toArray :: blk b2 41 (bA (-1) (-1) 0 0).toArray :: fr) ao (L.as Z Z (L.as Z Z (L.nil (At.then (At.seq (At.region (L.mv Z Z (aE 3 Z Z Z (aX Z Z Z Z (L.val Z (am (vs := bA (-1) (-1) 0 0) Z Z Z Z) (av Z) ?_)))))))))))
 refine L.op Z (ah Z Z Z hE (o7_do hDσ7 (by omega)) (Ent.refl _) ?_)
 rintro v m ⟨rfl, rfl⟩
 refine bV ?_
 obtain ⟨σ8, hnσ8⟩ : ∃ σ, σ = cz σ7 FK.J0 4 3 := ⟨_, rfl⟩
 rw [← hnσ8]
 have hDσ8 : FK.Dk 800000 σ8 := hnσ8 ▸ gU hDσ7 FK.J0 4 (by decide)
 refine L.as Z Z (L.nil (At.then (At.seq (At.region (L.mv Z Z (L.mv Z Z ?_))))))
 refine L.op Z (ah Z Z Z hE (jf (id := 1) (R := FK.pO 2 ⟨5, 2, 0⟩ ⟨5, 1, 0⟩ 1) FK.oQ Z) (Ent.refl _) ?_)
 rintro v m ⟨A2, c2, A3, c3, rfl, rfl⟩
 refine qx (L.mv Z Z (L.ex Z Z Z (L.ex Z Z Z (L.op Z (aH (z := .agg #[.int .u64 0, .int .i64 0, .slice none 0 0, .slice none 0 0]) Z Z fun b26 => ?_)))))
 refine L.op Z (aG Z (m := 4) (vs := cB 1 2 (.slice A2 2 c2) (.slice A3 2 c3)) Z Z Z Z (by simp [Value.oneCell']) (by show 0 + 4 ≤ 4; omega) ?_)
 refine ax b26 (cB 1 2 (.slice A2 2 c2) (.slice A3 2 c3)).toArray Z (L.as Z Z (L.nil (At.then (At.seq (At.seq (At.region (L.mv Z Z (L.pure Z (cr Z Z Z) (L.mv Z Z (lT Z Z Z (ag Z) (lT Z Z Z (cr Z Z Z) (L.pure Z (aM Z Z Z) (L.mv Z Z (lT Z Z Z (ag Z) (lT Z Z Z (cr Z Z Z) (L.pure Z (aM Z Z Z) (L.mv Z Z (lT Z Z Z (ag Z) (lT Z Z Z (cr Z Z Z) ?_)))))))))))))))))))
 refine L.pure Z (aM Z Z Z) (L.mv Z Z (lT Z Z Z (ag Z) (lT Z Z Z (cr Z Z Z) (L.pure Z (aM Z Z Z) (L.mv Z Z (lT Z Z Z (ag Z) (lT Z Z Z (cr Z Z Z) (L.pure Z (aM Z Z Z) (L.mv Z Z (lT Z Z Z (ag Z) (lT Z Z Z (cr Z Z Z) (L.pure Z (aM Z Z Z) (L.mv Z Z (lT Z Z Z (ag Z) (lT Z Z Z (cr Z Z Z) (L.pure Z (aM Z Z Z) (L.mv Z Z (lT Z Z Z (ag Z) (lT Z Z Z (cr Z Z Z) ?_)))))))))))))))))))
 refine L.pure Z (aM Z Z Z) (L.nil (At.then (aj Z (At.skip (At.then (At.seq (At.seq (At.region (L.mv Z Z (L.pure Z (cr Z Z Z) (L.mv Z Z (lT Z Z Z (ag Z) (lT Z Z Z (ck Z Z) (L.pure Z (aM Z Z Z) (L.mv Z Z (lT Z Z Z (ag Z) (L.pure Z (aM Z Z Z) (L.mv Z Z (lT Z Z Z (ag Z) ?_)))))))))))))))))))
 refine lT Z Z Z (ck Z Z) (L.pure Z (aM Z Z Z) (L.mv Z Z (lT Z Z Z (ag Z) (lT Z Z Z (ck Z Z) (L.pure Z (aM Z Z Z) (L.mv Z Z (lT Z Z Z (ab (off := 1) Z Z) (lA Z Z Z (aa Z Z) (ae Z) (lT Z Z Z (cr Z Z Z) (L.pure Z (aM Z Z Z) (L.mv Z Z (lT Z Z Z (ab (off := 2) Z Z) (lA Z Z Z (aa Z Z) (ae Z) (lT Z Z Z (cr Z Z Z) (L.pure Z (aM Z Z Z) (L.mv Z Z (lT Z Z Z (ab (off := 1) Z Z) (lA Z Z Z (aa Z Z) (ae Z) (lT Z Z Z (cr Z Z Z) ?_)))))))))))))))))))
 refine L.pure Z (aM Z Z Z) (L.mv Z Z (lT Z Z Z (ab (off := 2) Z Z) (lA Z Z Z (aa Z Z) (ae Z) (lT Z Z Z (cr Z Z Z) (L.pure Z (aM Z Z Z) (L.mv Z Z (lT Z Z Z (ab (off := 3) Z Z) (lA Z Z Z (aa Z Z) (ae Z) (lT Z Z Z (ab (off := 3) Z Z) (lA Z Z Z (aa Z Z) (ae Z) (lT Z Z Z (aV Z Z Z) (L.pure Z (aM Z Z Z) (L.mv Z Z (lT Z Z Z (ab (off := 1) Z Z) (lA Z Z Z (aa Z Z) (ae Z) (lT Z Z Z (cr Z Z Z) (L.pure Z (aM Z Z Z) (L.mv Z Z (lT Z Z Z (ab (off := 1) Z Z) ?_)))))))))))))))))))
 refine lA Z Z Z (aa Z Z) (ae Z) (lT Z Z Z (cr Z Z Z) (L.pure Z (aM Z Z Z) (L.nil (At.then (aj Z (At.skip (At.then (At.seq (At.region (L.mv Z Z (L.as Z Z (L.nil (At.then (At.ret ?_))))))))))))))
 have hE8 : σ8 = mS := by rw [hnσ8, hnσ7, hnσ6, hnσ5, hnσ4, hnσ3, hnσ2, hσ1]; rfl
 refine aA (bW h f e j d p' FK.o8 FK.J0 σ8) Z Z ⟨h, f, e, j, d, p', rfl, by rw [hE8]⟩ ?_
 show Ent _ (bE h d f :: dA f e j :: ap e p' FK.o8 :: aD j d FK.J0 :: ak d σ8 :: fr)
 exact ao
end Go.Proofs.YtmeegfamopaljaaGreatDoor

namespace FK
structure Lg (N : Nat) (l : List (List UInt8)) (S : En) : Prop where
 reds : Reds En.fresh l S
 len : (bH l).length ≤ N
theorem Lg.mono {N M : Nat} {l : List (List UInt8)} {S : En} (h : Lg N l S) (hN : N ≤ M) : Lg M l S := ⟨h.reds, Nat.le_trans h.len hN⟩
theorem Lg.snoc {N : Nat} {l : List (List UInt8)} {S U : En} (h : Lg N l S) (hF : Fine S) {b : List UInt8} (hb : b.length ≤ 1000000) (hr : Redo S b U) : Lg (N + b.length + 20) (l ++ [b]) U := by
 refine ⟨h.reds.snoc hF (by omega) hr, ?_⟩
 have h1 := h.len
 have h2 := Go.Proofs.YtmeegfamopaljaaGreatDoor.j5 b (by omega)
 rw [mw, List.length_append]
 omega
theorem xr {op n : Nat} (hn : n < 18446744073709551616) : (aY op n).length ≤ 11 := by
 have := Go.Proofs.YtmeegfamopaljaaGreatDoor.ew hn
 unfold aY
 simp only [List.length_cons]
 omega
theorem Lg.note {N : Nat} {l : List (List UInt8)} {S U : En} (h : Lg N l S) (hF : Fine S) {op n : Nat} (hn : n < 18446744073709551616) (hr : Redo S (aY op n) U) : Lg (N + 31) (l ++ [aY op n]) U := by
 have h1 := xr (op := op) hn
 exact (h.snoc hF (by omega) hr).mono (by omega)
end FK
namespace Go.Proofs.YtmeegfamopaljaaGreatDoor
open Go Go.RowKit Go.SL
theorem cQ (l : List (List UInt8)) (k : Int) (op n : Nat) : cz (FK.cY l k) FK.J0 op n = FK.cY (l ++ [FK.aY op n]) k := FK.rE l _ k
theorem jX {N : Nat} {l : List (List UInt8)} {S : FK.En} (h : FK.Lg N l S) (hN : N ≤ 1000000000) : Roomy (FK.cY l 1) := by
 have h1 := h.len
 obtain ⟨h2, h3⟩ := FK.qo l 1
 exact fA (N := N) ⟨FK.gD l, by omega, by omega⟩ (by omega)
theorem sz : ∃ l, mS = FK.cY l 1 ∧ FK.Lg 1000 l FK.o8 := by
 have fine : ∀ S : FK.En, FK.Ok S → S.sets ≤ 10 → S.ends ≤ 10 → S.lastToken ≤ 10 → S.lastRun ≤ 10 → FK.Fine S := fun S h a b c d => ⟨h, by omega, by omega, by omega, by omega⟩
 have h0 : FK.Lg 0 [] FK.En.fresh := ⟨.nil, Nat.le_refl _⟩
 have henc := FK.flow2_fit.encLen
 have h1 : FK.Redo FK.En.fresh (1 :: FK.bL FK.flow2) FK.o1 := FK.Redo.submit (S0 := FK.En.fresh) (FK.mY FK.flow2_fit) FK.flow2_fit (by omega) (show FK.qX FK.En.fresh FK.En.fresh from rfl) (fun S1 h => FK.cut0 h)
 have hb : (1 :: FK.bL FK.flow2).length ≤ 400 := by decide +kernel
 have g1 := h0.snoc (fine _ FK.Ok.fresh (by decide) (by decide) (by decide) (by decide)) (by omega) h1
 have r2 : FK.Redo FK.o1 (FK.aY 2 0) FK.o2 := FK.xX ▸ FK.Redo.poll rfl rfl rfl rfl
 have g2 := g1.note (fine _ FK.o1_ok (by decide) (by decide) (by decide) (by decide)) (n := 0) (by decide) r2
 have r3 : FK.Redo FK.o2 (FK.aY 5 1) FK.o3 := FK.xW ▸ FK.Redo.fail (P := ⟨1, 0, 0⟩) (by decide) rfl
 have g3 := g2.note (fine _ FK.o2_ok (by decide) (by decide) (by decide) (by decide)) (n := 1) (by decide) r3
 have r4 : FK.Redo FK.o3 (FK.aY 7 3) FK.o4 := FK.Redo.tick (by decide) (show FK.Ticks (FK.o3.later 3) FK.o3 FK.o4 from FK.o4_ticks)
 have g4 := g3.note (fine _ FK.xV (by decide) (by decide) (by decide) (by decide)) (n := 3) (by decide) r4
 have r5 : FK.Redo FK.o4 (FK.aY 2 0) FK.o5 := FK.xU ▸ FK.Redo.poll rfl rfl rfl rfl
 have g5 := g4.note (fine _ FK.o4_ok (by decide) (by decide) (by decide) (by decide)) (n := 0) (by decide) r5
 have r6 : FK.Redo FK.o5 (FK.aY 4 2) FK.o6 := FK.xT ▸ FK.Redo.complete (P := ⟨1, 0, 0⟩) (by decide) rfl
 have g6 := g5.note (fine _ FK.o5_ok (by decide) (by decide) (by decide) (by decide)) (n := 2) (by decide) r6
 have r7 : FK.Redo FK.o6 (FK.aY 2 0) FK.o7 := FK.xS ▸ FK.Redo.poll rfl rfl rfl rfl
 have g7 := g6.note (fine _ FK.o6_ok (by decide) (by decide) (by decide) (by decide)) (n := 0) (by decide) r7
 have r8 : FK.Redo FK.o7 (FK.aY 4 3) FK.o8 := FK.xR ▸ FK.Redo.complete (P := ⟨1, 1, 0⟩) (by decide) rfl
 have g8 := g7.note (fine _ FK.o7_ok (by decide) (by decide) (by decide) (by decide)) (n := 3) (by decide) r8
 refine ⟨_, ?_, g8.mono (by omega)⟩
 unfold mS
 rw [show FK.J0.n = 0 from rfl, FK.Ba, cQ, cQ, cQ, cQ, cQ, cQ, cQ]
 rfl
abbrev oT (h f e j d : Nat) (p : EA) (S : FK.En) (l : List (List UInt8)) : List HP := bW h f e j d p S FK.J0 (FK.cY l 1)
end Go.Proofs.YtmeegfamopaljaaGreatDoor
