/- The walks of flow.Bytes and of the document's encode. -/
import Derived.Test.YtagkobkmaigfcaaDoorSlOld
namespace Go.Proofs.YtagkobkmaigfcaaDoor
open Go Go.RowKit Go.SL
variable {G : Env → Prop}

def encI (k : Int) : List UInt8 := FK.encN k.toNat

/-- what is written ahead of node k -/
def encTo (d : Nat) (ns : List FK.Node) (k : Nat) : List UInt8 := FK.encN d ++ FK.encN ns.length ++ (ns.take k).flatMap FK.encNode

theorem encTo_next {d : Nat} {ns : List FK.Node} {k : Nat} {nd : FK.Node} (h : ns[k]? = some nd) : encTo d ns (k + 1) = encTo d ns k ++ FK.encNode nd := by
  obtain ⟨hk, hn⟩ := List.getElem?_eq_some_iff.1 h
  unfold encTo
  rw [List.take_succ_eq_append_getElem hk, hn]
  simp

theorem encTo_len {d : Nat} {ns : List FK.Node} (hd : d ≤ 1048576) (hl : ns.length ≤ 12) (ho : ∀ n ∈ ns, FK.NodeOk n ∧ FK.EdgesOk ns.length (-1) n.after) (k : Nat) : (encTo d ns k).length ≤ 700 := by
  have h := flat_len FK.encNode 57 (ns.take k) fun n hn => by
    have := ho n (List.mem_of_mem_take hn)
    exact encNode_len hl this.1 this.2
  have h1 := FK.encN_length_le (n := d) (by omega)
  have h2 := FK.encN_length_le (n := ns.length) (by omega)
  have h3 : (ns.take k).length ≤ 12 := by simp; omega
  have h4 : 57 * (ns.take k).length ≤ 57 * 12 := Nat.mul_le_mul_left _ h3
  unfold encTo
  simp only [List.length_append]
  omega

theorem pre_len {a b c : List UInt8} {m : Nat} (h : a ++ b = c) (hc : c.length ≤ m) : a.length ≤ m := by
  rw [← h] at hc
  simp at hc; omega

theorem ptrs_at (b : Nat) : ∀ j, j < 6 → (fieldPtrs b 0)[j]? = some (.pointer (some ⟨b, j, none⟩))
  | 0, _ => rfl | 1, _ => rfl | 2, _ => rfl | 3, _ => rfl | 4, _ => rfl | 5, _ => rfl
  | j + 6, h => by omega

theorem flat_take {α : Type} (f : α → List UInt8) (l : List α) (j : Nat) : ((l.take j).flatMap f).length ≤ (l.flatMap f).length := by
  have : l.flatMap f = (l.take j).flatMap f ++ (l.drop j).flatMap f := by rw [← List.flatMap_append, List.take_append_drop]
  rw [this]; simp

theorem take_more {α : Type} {l : List α} {j : Nat} {x : α} (h : l[j]? = some x) : l.take (j + 1) = l.take j ++ [x] := by
  obtain ⟨h1, h2⟩ := List.getElem?_eq_some_iff.1 h
  rw [List.take_succ_eq_append_getElem h1, h2]

def nodeVals (nd : FK.Node) (A6 : Option Addr) (c6 : Nat) : List Value := [.int .i64 nd.budget, .int .i64 nd.close, .int .i64 nd.beat, .int .i64 nd.base, .int .i64 nd.cap, .int .i64 nd.jitter, .slice A6 nd.after.length c6]

theorem nums_at (nd : FK.Node) (A6 : Option Addr) (c6 : Nat) : ∀ j, j < 6 → ∃ x, (nums nd)[j]? = some x ∧ (nodeVals nd A6 c6)[j]? = some (.int .i64 x)
  | 0, _ => ⟨_, rfl, rfl⟩ | 1, _ => ⟨_, rfl, rfl⟩ | 2, _ => ⟨_, rfl, rfl⟩ | 3, _ => ⟨_, rfl, rfl⟩ | 4, _ => ⟨_, rfl, rfl⟩ | 5, _ => ⟨_, rfl, rfl⟩
  | j + 6, h => by omega

theorem setRow_all (z0 z1 z2 z3 z4 z5 z6 : Value) (nd : FK.Node) (A6 : Option Addr) (c6 : Nat) : setRow #[z0, z1, z2, z3, z4, z5, z6] 0 (nodeVals nd A6 c6) = (nodeVals nd A6 c6).toArray := by simp [setRow, nodeVals]

theorem NodeAt.row {w : World} {B b off : Nat} {nd : FK.Node} (h : NodeAt w B b off nd) : ∃ A6 c6, (∀ j v, (nodeVals nd A6 c6)[j]? = some v → w.cell? ⟨b, off + j, none⟩ = some v) ∧ IntsAt w B A6 c6 nd.after := by
  obtain ⟨h0, h1, h2, h3, h4, h5, ⟨A, c, h6, hi⟩, _⟩ := h
  refine ⟨A, c, fun j v hj => ?_, hi⟩
  match j, hj with
  | 0, hj => injection hj with hj; subst hj; exact h0
  | 1, hj => injection hj with hj; subst hj; exact h1
  | 2, hj => injection hj with hj; subst hj; exact h2
  | 3, hj => injection hj with hj; subst hj; exact h3
  | 4, hj => injection hj with hj; subst hj; exact h4
  | 5, hj => injection hj with hj; subst hj; exact h5
  | 6, hj => injection hj with hj; subst hj; exact h6
  | j + 7, hj => simp [nodeVals] at hj

theorem nums_ok {nd : FK.Node} (h : FK.NodeOk nd) : ∀ x ∈ nums nd, 0 ≤ x ∧ x ≤ 1048576 := by
  obtain ⟨a1, a2, ⟨b1, b2⟩, ⟨c1, c2⟩, ⟨d1, d2⟩, ⟨e1, e2⟩, f1, f2⟩ := h
  intro x hx
  simp only [nums, List.mem_cons, List.not_mem_nil, or_false] at hx
  rcases hx with rfl | rfl | rfl | rfl | rfl | rfl <;> omega

set_option maxRecDepth 10000 in
theorem Bytes_gives (d : Nat) (A : Option Addr) (c : Nat) (ns : List FK.Node) (hd : d ≤ 1048576) (hl : ns.length ≤ 12) (ho : ∀ n ∈ ns, FK.NodeOk n ∧ FK.EdgesOk ns.length (-1) n.after) :
    Gives Tryd.prog G 52 [.agg #[.int .i64 d, .slice A ns.length c]].toArray (fun w => NodesAt w w.heap.size A c ns) fun v m => m = [bytesAt v (FK.encFlow ⟨d, ns⟩)] := by
  have hlen := encTo_len hd hl ho
  refine Gives.body Tryd.func52 rfl rfl fun E w0 hE h0 hN => ?_
  refine At.seq ?_
  refine At.region ?_
  refine L.op rfl (o_box rfl rfl fun b1 => ?_)
  refine L.as rfl rfl ?_
  refine L.nil ?_
  refine At.then ?_
  refine At.seq ?_
  refine Dr.start rfl ?_
  refine Dr.p 0 rfl rfl (by kernel_rfl) (ev_field (off := 0) rfl rfl) ?_
  refine Dr.ld 1 rfl rfl (by kernel_rfl) (ev_load1 rfl rfl) (cellIs rfl) ?_
  refine Dr.p 2 rfl rfl (by kernel_rfl) (ev_conv rfl rfl rfl (wu64 (by omega))) ?_
  refine Dr.p 4 rfl rfl (by kernel_rfl) (ev_field (off := 1) rfl rfl) ?_
  refine Dr.ld 5 rfl rfl (by kernel_rfl) (ev_load1 rfl rfl) (cellIs rfl) ?_
  refine Dr.p 6 rfl rfl (by kernel_rfl) (ev_lenS rfl rfl) ?_
  refine Dr.p 7 rfl rfl (by kernel_rfl) (ev_conv rfl rfl rfl (wu64 (by omega))) ?_
  refine Dr.run 3 rfl rfl (by kernel_rfl) (o_call rfl rfl rfl hE (number_does _ [] d (by omega) (by simp)) Ent.row0 ?_)
  rintro v m rfl
  refine At.app1 ?_
  obtain ⟨v13, hv13⟩ : ∃ v13, v13 = v := ⟨_, rfl⟩
  refine Dr.kept [true, true] (by kernel_rfl) (Kept.cons (cellIs rfl) (Kept.cons (cellIs rfl) Kept.nil)) ?_
  refine Dr.run 8 rfl rfl (by kernel_rfl) (o_call rfl rfl rfl hE (number_does _ _ ns.length (by omega) (by have := FK.encN_length_le (n := d) (by omega); simp; omega)) (Ent.refl _) ?_)
  rintro v m rfl
  refine At.app1 ?_
  refine Dr.kept [true, true] (by kernel_rfl) (Kept.cons (cellIs rfl) (Kept.cons (cellIs rfl) Kept.nil)) ?_
  refine Dr.p 9 rfl rfl (by kernel_rfl) (ev_assign rfl) ?_
  refine Dr.done (by kernel_rfl) ?_
  refine At.then ?_
  refine At.seq ?_
  refine At.seq ?_
  refine At.region ?_
  refine L.fa 1 rfl rfl rfl ?_
  refine L.ld rfl rfl rfl rfl ?_
  refine L.pure rfl (ev_lenS rfl rfl) ?_
  refine L.mv rfl rfl ?_
  refine L.nil ?_
  refine At.then ?_
  refine At.block ?_
  refine At.loop (X := Nat × Value) (fun x => [(22, .int .i64 x.1), (3, x.2), (20, .slice A ns.length c), (21, .int .i64 ns.length)]) (fun x => [bytesAt x.2 (encTo d ns x.1), old E w0]) (fun x => x.1 ≤ ns.length) (fun x => ns.length - x.1) (0, _) (by omega) ⟨rfl, rfl, rfl, rfl, trivial⟩ (by simp only [encTo, List.take_zero, List.flatMap_nil, List.append_nil, List.nil_append]; exact Ent.cons Ent.drop) ?_
  rintro ⟨k, v3⟩ hk
  simp only at hk ⊢
  refine At.seq ?_
  refine At.region ?_
  refine L.pure rfl (ev_lss rfl rfl rfl) ?_
  refine L.nil ?_
  refine At.then ?_
  refine At.seq ?_
  refine At.condD rfl (fun c23 => ?_) (fun c23 => ?_)
  ·
    have hlt : k < ns.length := by omega
    obtain ⟨b, off, rfl, hbB, hcell⟩ := hN.cells (by omega)
    obtain ⟨nd, hnd⟩ : ∃ nd, ns[k]? = some nd := ⟨ns[k], by simp [hlt]⟩
    obtain ⟨A6, c6, hrow, hints⟩ := NodeAt.row (hcell k nd hnd)
    obtain ⟨hok, hed⟩ := ho nd (List.mem_of_getElem? hnd)
    have hnx := encTo_next (d := d) hnd
    have hl1 : (encTo d ns k).length + ((nums nd).flatMap encI).length + (FK.encN nd.after.length).length + (nd.after.flatMap encI).length ≤ 700 := by
      have := hlen (k + 1)
      rw [hnx, encNode_nums] at this
      simp only [List.length_append] at this
      have e : (fun k : Int => FK.encN k.toNat) = encI := rfl
      rw [e] at this
      omega
    have hal : nd.after.length ≤ 12 := by
      rcases hed.length_le (by omega) with h | h
      · omega
      · rw [h]; simp
    refine At.skip ?_
    refine At.then ?_
    refine At.seq ?_
    refine At.block ?_
    refine At.seq ?_
    refine At.region ?_
    refine L.pure rfl (ev_ixN (z := 7) rfl rfl rfl rfl (by omega)) ?_
    refine L.val rfl (ev_loadN (vs := nodeVals nd A6 c6) rfl rfl rfl rfl) (rowOld (.tail (.head)) h0 hrow) ?_
    refine L.op rfl (o_alloc (z := .agg #[.int .i64 0, .int .i64 0, .int .i64 0, .int .i64 0, .int .i64 0, .int .i64 0, .slice none 0 0]) rfl rfl fun b5 => ?_)
    refine L.op rfl (o_storeN rfl (m := 7) (vs := nodeVals nd A6 c6) rfl rfl rfl rfl (by simp [nodeVals, Value.oneCell']) (by simp [nodeVals, Value.cells]) ?_)
    simp only [Value.cells, setRow_all]
    refine L.nil ?_
    refine At.then ?_
    refine At.seq ?_
    refine At.seq ?_
    refine At.region ?_
    refine L.op rfl (o_call rfl rfl rfl hE (fields_does b5) (Ent.refl _) ?_)
    rintro v m ⟨rfl, rfl⟩
    refine At.app0 ?_
    refine L.mv rfl rfl ?_
    refine L.nil ?_
    refine At.then ?_
    refine At.block ?_
    refine At.loop (X := Nat × Value) (fun x => [(27, .int .i64 x.1), (3, x.2), (22, .int .i64 k), (20, .slice (some ⟨b, off, none⟩) ns.length c), (21, .int .i64 ns.length), (26, .agg (fieldPtrs b5 0)), (5, .pointer (some ⟨b5, 0, none⟩))]) (fun x => [bytesAt x.2 (encTo d ns k ++ ((nums nd).take x.1).flatMap encI), blk b5 _ (nodeVals nd A6 c6).toArray, old E w0]) (fun x => x.1 ≤ 6) (fun x => 6 - x.1) (0, _) (by omega) ⟨rfl, rfl, rfl, rfl, rfl, rfl, rfl, trivial⟩ (by simp only [List.take_zero, List.flatMap_nil, List.append_nil]; exact Ent.perm (List.Perm.swap _ _ _)) ?_
    rintro ⟨j, v3⟩ hj
    simp only at hj ⊢
    refine At.seq ?_
    refine At.region ?_
    refine L.pure rfl (ev_lss rfl rfl rfl) ?_
    refine L.nil ?_
    refine At.then ?_
    refine At.seq ?_
    refine At.condD rfl (fun c28 => ?_) (fun c28 => ?_)
    ·
      have hj6 : j < 6 := by omega
      obtain ⟨x, hx1, hx2⟩ := nums_at nd A6 c6 j hj6
      have hxr := nums_ok hok x (List.mem_of_getElem? hx1)
      obtain ⟨m, rfl⟩ : ∃ m : Nat, x = m := ⟨x.toNat, by omega⟩
      have hxt := take_more hx1
      have hft := flat_take encI (nums nd) j
      refine At.skip ?_
      refine At.then ?_
      refine At.seq ?_
      refine At.block ?_
      refine At.seq ?_
      refine At.region ?_
      refine L.pure rfl (ev_index rfl rfl rfl rfl rfl hj6 (ptrs_at b5 j hj6)) ?_
      refine L.as rfl rfl ?_
      refine L.nil ?_
      refine At.then ?_
      refine At.region ?_
      refine L.mv rfl rfl ?_
      refine L.mv rfl rfl ?_
      refine L.nc rfl rfl ?_
      refine L.ld rfl rfl rfl (by simpa using hx2) ?_
      refine L.pure rfl (ev_conv rfl rfl rfl (wu64 (by omega))) ?_
      refine L.op rfl (o_call rfl rfl rfl hE (number_does _ _ m (by omega) (by simp only [List.length_append]; omega)) (Ent.refl _) ?_)
      rintro v m rfl
      refine At.app1 ?_
      refine L.as rfl rfl ?_
      refine L.nil ?_
      refine At.inBlock (At.then ?_)
      refine At.region ?_
      refine L.pure rfl (ev_add rfl rfl (w64 (by omega))) ?_
      refine L.mv rfl rfl ?_
      refine L.nil ?_
      exact At.round (j + 1, _) (by simp; omega) (by simp; omega) ⟨rfl, rfl, rfl, rfl, rfl, rfl, rfl, trivial⟩ (by rw [hxt]; simp only [List.flatMap_append, List.flatMap_cons, List.flatMap_nil, List.append_nil, List.append_assoc]; exact Ent.refl _)
    ·
      obtain rfl : j = 6 := by omega
      refine At.exit ?_
      refine At.thenExit (At.roundExit (At.inBlockHit (At.then ?_)))
      refine At.seq ?_
      refine At.region ?_
      refine L.mv rfl rfl ?_
      refine L.fa 6 rfl rfl rfl ?_
      refine L.ld rfl rfl rfl rfl ?_
      refine L.pure rfl (ev_lenS rfl rfl) ?_
      refine L.pure rfl (ev_conv rfl rfl rfl (wu64 (by omega))) ?_
      refine L.op rfl (o_call rfl rfl rfl hE (number_does _ _ nd.after.length (by omega) (by have e : (nums nd).take 6 = nums nd := rfl; rw [e]; simp only [List.length_append]; omega)) (Ent.refl _) ?_)
      rintro v m rfl
      refine At.app1 ?_
      refine L.as rfl rfl ?_
      refine L.nil ?_
      refine At.then ?_
      refine At.seq ?_
      refine At.region ?_
      refine L.fa 6 rfl rfl rfl ?_
      refine L.ld rfl rfl rfl rfl ?_
      refine L.pure rfl (ev_lenS rfl rfl) ?_
      refine L.mv rfl rfl ?_
      refine L.nil ?_
      refine At.then ?_
      refine At.block ?_
      refine At.loop (X := Nat × Value) (fun x => [(46, .int .i64 x.1), (3, x.2), (22, .int .i64 k), (20, .slice (some ⟨b, off, none⟩) ns.length c), (21, .int .i64 ns.length), (44, .slice A6 nd.after.length c6), (45, .int .i64 nd.after.length)]) (fun x => [bytesAt x.2 (encTo d ns k ++ (nums nd).flatMap encI ++ FK.encN nd.after.length ++ (nd.after.take x.1).flatMap encI), old E w0]) (fun x => x.1 ≤ nd.after.length) (fun x => nd.after.length - x.1) (0, _) (by omega) ⟨rfl, rfl, rfl, rfl, rfl, rfl, rfl, trivial⟩ (by simp only [List.take_zero, List.flatMap_nil, List.append_nil]; exact Ent.cons Ent.drop) ?_
      rintro ⟨j, v3⟩ hj
      simp only at hj ⊢
      refine At.seq ?_
      refine At.region ?_
      refine L.pure rfl (ev_lss rfl rfl rfl) ?_
      refine L.nil ?_
      refine At.then ?_
      refine At.seq ?_
      refine At.condD rfl (fun c47 => ?_) (fun c47 => ?_)
      ·
        have hlt2 : j < nd.after.length := by omega
        obtain ⟨b6, off6, rfl, hb6, hc6⟩ := hints.cells (by omega)
        obtain ⟨y, hy⟩ : ∃ y, nd.after[j]? = some y := ⟨nd.after[j], by simp [hlt2]⟩
        have hyr := hed.bounds y (List.mem_of_getElem? hy)
        obtain ⟨m, rfl⟩ : ∃ m : Nat, y = m := ⟨y.toNat, by omega⟩
        have hxt := take_more hy
        have hft := flat_take encI nd.after j
        refine At.skip ?_
        refine At.then ?_
        refine At.seq ?_
        refine At.block ?_
        refine At.seq ?_
        refine At.region ?_
        refine L.pure rfl (ev_ixN (z := 1) rfl rfl rfl rfl hlt2) ?_
        refine L.val rfl (ev_load1 rfl rfl) (cellOld (.tail (.head)) h0 (by simpa using hc6 j _ hy)) ?_
        refine L.as rfl rfl ?_
        refine L.nil ?_
        refine At.then ?_
        refine At.region ?_
        refine L.mv rfl rfl ?_
        refine L.mv rfl rfl ?_
        refine L.pure rfl (ev_conv rfl rfl rfl (wu64 (by omega))) ?_
        refine L.op rfl (o_call rfl rfl rfl hE (number_does _ _ m (by omega) (by simp only [List.length_append]; omega)) (Ent.refl _) ?_)
        rintro v m rfl
        refine At.app1 ?_
        refine L.as rfl rfl ?_
        refine L.nil ?_
        refine At.inBlock (At.then ?_)
        refine At.region ?_
        refine L.pure rfl (ev_add rfl rfl (w64 (by omega))) ?_
        refine L.mv rfl rfl ?_
        refine L.nil ?_
        exact At.round (j + 1, _) (by simp; omega) (by simp; omega) ⟨rfl, rfl, rfl, rfl, rfl, rfl, rfl, trivial⟩ (by rw [hxt]; simp only [List.flatMap_append, List.flatMap_cons, List.flatMap_nil, List.append_nil, List.append_assoc]; exact Ent.refl _)
      ·
        obtain rfl : j = nd.after.length := by omega
        refine At.exit ?_
        refine At.thenExit (At.roundExit (At.inBlockHit (At.inBlock (At.then ?_))))
        refine At.region ?_
        refine L.pure rfl (ev_add rfl rfl (w64 (by omega))) ?_
        refine L.mv rfl rfl ?_
        refine L.nil ?_
        exact At.round (k + 1, _) (by simp; omega) (by simp; omega) ⟨rfl, rfl, rfl, rfl, trivial⟩ (by rw [hnx, encNode_nums]; have e : (fun k : Int => FK.encN k.toNat) = encI := rfl; rw [e, List.take_length]; simp only [List.append_assoc]; exact Ent.refl _)
  ·
    obtain rfl : k = ns.length := by omega
    refine At.exit ?_
    refine At.thenExit (At.roundExit (At.inBlockHit (At.then ?_)))
    refine At.seq ?_
    refine At.region ?_
    refine L.mv rfl rfl ?_
    refine L.as rfl rfl ?_
    refine L.nil ?_
    refine At.then ?_
    refine At.ret ?_
    exact At.ret1 [bytesAt v3 (FK.encFlow ⟨d, ns⟩)] rfl rfl rfl (by have e : encTo d ns ns.length = FK.encFlow ⟨d, ns⟩ := (by simp [encTo, FK.encFlow]); rw [e]; exact Ent.refl _)
end Go.Proofs.YtagkobkmaigfcaaDoor
