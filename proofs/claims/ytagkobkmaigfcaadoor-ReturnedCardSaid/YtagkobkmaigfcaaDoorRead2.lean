/- The walks of flow's reader: lists of integers, nodes, lists of nodes. -/
import Derived.Test.YtagkobkmaigfcaaDoorRead1
import Derived.Test.YtagkobkmaigfcaaDoorBytesW
namespace Go.Proofs.YtagkobkmaigfcaaDoor
open Go Go.RowKit Go.SL
variable {G : Env → Prop}

abbrev cutAt (e : Nat) : List PanicEntry := [{ v := .iface 153 (.int .i64 e), recovered := false }]

theorem intsAt_snoc (v : Value) (xs : List Int) (x : Int) : intsAt v (xs ++ [x]) = row 3 1 v (xs.length + 1) (intsV xs ++ [.int .i64 x]) := by simp [intsAt, intsV]

theorem many_zero {α : Type} (r : FK.Rd α) (l : List α) (q : Nat) : FK.many r 0 l q = .ok (l, q) := rfl
theorem many_succ {α : Type} {r : FK.Rd α} {n : Nat} {l : List α} {q q' : Nat} {x : α} (h : r q = .ok (x, q')) : FK.many r (n + 1) l q = FK.many r n (l ++ [x]) q' := by simp only [FK.many, h]
theorem many_err {α : Type} {r : FK.Rd α} {n : Nat} {l : List α} {q e : Nat} (h : r q = .error e) : FK.many r (n + 1) l q = .error e := by simp only [FK.many, h]
theorem rdList_ok {α : Type} {b : List UInt8} {r : FK.Rd α} {q n q' : Nat} (h : FK.rd b q = .ok (n, q')) : FK.rdList b r q = FK.many r n [] q' := by simp only [FK.rdList, h]
theorem rdList_err {α : Type} {b : List UInt8} {r : FK.Rd α} {q e : Nat} (h : FK.rd b q = .error e) : FK.rdList b r q = .error e := by simp only [FK.rdList, h]
theorem rdInt_ok {b : List UInt8} {q n q' : Nat} (h : FK.rd b q = .ok (n, q')) : FK.rdInt b q = .ok ((n : Int), q') := by simp only [FK.rdInt, h]
theorem rdInt_err {b : List UInt8} {q e : Nat} (h : FK.rd b q = .error e) : FK.rdInt b q = .error e := by simp only [FK.rdInt, h]

set_option maxRecDepth 10000 in
theorem list_int {p : HP} {A : Option Addr} {c : Nat} {bs : List UInt8} (hp : Reads p A bs) (hl : bs.length ≤ 1099511627776) (r q : Nat) (hq : q ≤ bs.length) :
    DoesX Tryd.prog G 97 [.pointer (some ⟨r, 0, none⟩), .func (.func 84) #[.pointer (some ⟨r, 0, none⟩)] #[]].toArray [blk r 156 #[.slice A bs.length c, .int .i64 q], p]
      (fun u m => ∃ (xs : List Int) (q' : Nat), FK.rdList bs (FK.rdInt bs) q = .ok (xs, q') ∧ q' ≤ bs.length ∧ (∀ x ∈ xs, 0 ≤ x ∧ x < 2097152) ∧ m = [intsAt u xs, blk r 156 #[.slice A bs.length c, .int .i64 q'], p])
      (fun x m => ∃ e q' : Nat, FK.rdList bs (FK.rdInt bs) q = .error e ∧ x = cutAt e ∧ m = [blk r 156 #[.slice A bs.length c, .int .i64 q'], p]) := by
  refine DoesX.body Tryd.func97 rfl rfl fun E fr hE => ?_
  refine At.app2 ?_
  refine At.seq ?_
  refine At.region ?_
  refine L.as rfl rfl ?_
  refine L.nil ?_
  refine At.then ?_
  refine At.seq ?_
  refine At.region ?_
  refine L.as rfl rfl ?_
  refine L.nil ?_
  refine At.then ?_
  refine At.seq ?_
  refine At.seq ?_
  refine At.region ?_
  refine L.mv rfl rfl ?_
  refine L.op rfl (o_callX rfl rfl rfl hE (reader_number hp hl r q hq) (Ent.refl _) ?_ ?_)
  ·
    rintro c m ⟨e, q', he, rfl, rfl⟩
    refine At.app2 ?_
    refine At.thenPanic (At.thenPanic ?_)
    exact At.panicX _ ⟨e, q', rdList_err he, rfl, rfl⟩ (Ent.refl _)
  rintro v m ⟨n, q1, hn, rfl, rfl⟩
  refine At.app2 ?_
  obtain ⟨hn1, hn2, hn3⟩ := FK.rd_lt hn
  refine L.as rfl rfl ?_
  refine L.nil ?_
  refine At.then ?_
  refine At.block ?_
  refine At.loop (X := Nat × List Int × Value × Nat) (fun x => [(6, .int .i64 x.1), (5, x.2.2.1), (0, .pointer (some ⟨r, 0, none⟩)), (1, .func (.func 84) #[.pointer (some ⟨r, 0, none⟩)] #[])]) (fun x => intsAt x.2.2.1 x.2.1 :: blk r 156 #[.slice A bs.length c, .int .i64 x.2.2.2] :: p :: fr) (fun x => FK.many (FK.rdInt bs) x.1 x.2.1 x.2.2.2 = FK.rdList bs (FK.rdInt bs) q ∧ x.2.2.2 ≤ bs.length ∧ (∀ y ∈ x.2.1, 0 ≤ y ∧ y < 2097152) ∧ x.2.1.length + x.1 ≤ 2097152) (fun x => x.1) (n, [], .slice none 0 0, q1) ⟨(rdList_ok hn).symm, hn3, by simp, by simp; omega⟩ ⟨rfl, rfl, rfl, rfl, trivial⟩ Ent.row0 ?_
  rintro ⟨k, xs, v5, q2⟩ ⟨hm, hq2, hb, hlen⟩
  simp only at hm hq2 hb hlen ⊢
  refine At.seq ?_
  refine At.seq ?_
  refine At.region ?_
  refine L.mv rfl rfl ?_
  refine L.pure rfl (ev_gtr rfl rfl rfl) ?_
  refine L.nil ?_
  refine At.then ?_
  refine At.condD rfl (fun c10 => ?_) (fun c10 => ?_)
  ·
    obtain ⟨k, rfl⟩ : ∃ j, k = j + 1 := ⟨k - 1, by omega⟩
    refine At.skip ?_
    refine At.then ?_
    refine At.seq ?_
    refine At.block ?_
    refine At.region ?_
    refine L.mv rfl rfl ?_
    refine L.mv rfl rfl ?_
    refine L.op rfl (o_callVX rfl rfl rfl rfl hE (reader_number (c := c) hp hl r q2 hq2) (Ent.sel2 (.tail (.head)) (.tail (.head))) ?_ ?_)
    ·
      rintro c m ⟨e, q', he, rfl, rfl⟩
      refine At.app2 ?_
      refine At.inBlockPanic (At.thenPanic (At.roundPanic (At.inBlockPanic (At.thenPanic ?_))))
      exact At.panicX _ ⟨e, q', by rw [← hm, many_err (rdInt_err he)], rfl, rfl⟩ (Ent.cons (Ent.cons Ent.drop))
    rintro v m ⟨y, q3, hy, rfl, rfl⟩
    refine At.app2 ?_
    obtain ⟨hy1, hy2, hy3⟩ := FK.rd_lt hy
    refine L.op rfl (o_slice1 (z := .int .i64 0) rfl rfl rfl rfl rfl rfl fun b16 => ?_)
    refine L.op rfl (o_append rfl rfl infoInt rfl (by omega) rfl rfl (.tail (.tail (.tail (.head)))) (news := [.int .i64 y]) rfl (fun h => by cases h) (srcIs (fun j u h => by simpa using h)) (by simp [Value.oneCell']) (by unfold maxLen; omega) (by omega) fun v' hv' => ?_)
    refine L.as rfl rfl ?_
    refine L.nil ?_
    refine At.inBlock (At.then ?_)
    refine At.region ?_
    refine L.mv rfl rfl ?_
    refine L.pure rfl (ev_sub (r := (k : Int)) rfl rfl (by rw [w64 (by omega)]; omega)) ?_
    refine L.as rfl rfl ?_
    refine L.nil ?_
    exact At.round (k, xs ++ [(y : Int)], v', q3) ⟨by rw [← hm, many_succ (rdInt_ok hy)], hy3, fun z hz => (by rcases List.mem_append.1 hz with h | h; exact hb z h; simp at h; omega), by simp only [List.length_append, List.length_cons, List.length_nil]; omega⟩ (by simp only; omega) ⟨rfl, rfl, rfl, rfl, trivial⟩ (by rw [intsAt_snoc]; exact Ent.cons Ent.drop)
  ·
    obtain rfl : k = 0 := by omega
    refine At.exit ?_
    refine At.thenExit (At.roundExit (At.inBlockHit (At.then ?_)))
    refine At.seq ?_
    refine At.region ?_
    refine L.mv rfl rfl ?_
    refine L.as rfl rfl ?_
    refine L.nil ?_
    refine At.then ?_
    refine At.ret ?_
    exact At.endsX (.inl rfl) (At.ret1 [_, _, _] rfl rfl ⟨xs, q2, by rw [← hm, many_zero], hq2, hb, rfl⟩ (Ent.refl _))

/-- a node whose first numbers are read -/
def nodeArr (xs : List Int) : Array Value := #[.int .i64 (xs.getD 0 0), .int .i64 (xs.getD 1 0), .int .i64 (xs.getD 2 0), .int .i64 (xs.getD 3 0), .int .i64 (xs.getD 4 0), .int .i64 (xs.getD 5 0), .slice none 0 0]
theorem nodeArr_set : ∀ (xs : List Int) (x : Int), xs.length < 6 → (nodeArr xs).setIfInBounds xs.length (.int .i64 x) = nodeArr (xs ++ [x])
  | [], _, _ => rfl | [_], _, _ => rfl | [_, _], _, _ => rfl | [_, _, _], _, _ => rfl | [_, _, _, _], _, _ => rfl | [_, _, _, _, _], _, _ => rfl
  | _ :: _ :: _ :: _ :: _ :: _ :: _, _, h => by simp at h; omega
theorem nodeArr_after (xs : List Int) (l : List Int) (v : Value) : (nodeArr xs).setIfInBounds 6 v = (nodeCells (FK.node7 xs l) v).toArray := rfl
theorem setRow_node (nd : FK.Node) (v : Value) : setRow (nodeCells nd v).toArray 0 (nodeCells nd v) = (nodeCells nd v).toArray := by simp [setRow, nodeCells]

theorem rdNums_ok {b : List UInt8} {k : Nat} {l : List Int} {q n q' : Nat} (h : FK.rd b q = .ok (n, q')) : FK.rdNums b (k + 1) l q = FK.rdNums b k (l ++ [(n : Int)]) q' := by simp only [FK.rdNums, rdInt_ok h, FK.andThen]
theorem rdNums_err {b : List UInt8} {k : Nat} {l : List Int} {q e : Nat} (h : FK.rd b q = .error e) : FK.rdNums b (k + 1) l q = .error e := by simp only [FK.rdNums, rdInt_err h, FK.andThen]
theorem rdNums_done {b : List UInt8} {l : List Int} {q q' : Nat} {xs : List Int} (h : FK.rdList b (FK.rdInt b) q = .ok (xs, q')) : FK.rdNums b 0 l q = .ok (FK.node7 l xs, q') := by simp only [FK.rdNums, h, FK.andThen]
theorem rdNums_bad {b : List UInt8} {l : List Int} {q e : Nat} (h : FK.rdList b (FK.rdInt b) q = .error e) : FK.rdNums b 0 l q = .error e := by simp only [FK.rdNums, h, FK.andThen]

/-- a node that was read has small numbers -/
def Small (nd : FK.Node) : Prop := (∀ x ∈ nums nd, 0 ≤ x ∧ x < 2097152) ∧ ∀ x ∈ nd.after, 0 ≤ x ∧ x < 2097152

theorem Small.i64 {nd : FK.Node} (h : Small nd) : (i64 nd.budget ∧ i64 nd.close ∧ i64 nd.beat ∧ i64 nd.base ∧ i64 nd.cap ∧ i64 nd.jitter) ∧ ∀ x ∈ nd.after, i64 x := by
  have h0 := h.1
  simp only [nums, List.mem_cons, List.not_mem_nil, or_false, forall_eq_or_imp, forall_eq] at h0
  obtain ⟨a1, a2, a3, a4, a5, a6⟩ := h0
  unfold Go.Proofs.YtagkobkmaigfcaaDoor.i64
  exact ⟨⟨by omega, by omega, by omega, by omega, by omega, by omega⟩, fun x hx => by have := h.2 x hx; omega⟩

theorem getD_small {xs : List Int} (h : ∀ x ∈ xs, 0 ≤ x ∧ x < 2097152) (i : Nat) : 0 ≤ xs.getD i 0 ∧ xs.getD i 0 < 2097152 := by
  rw [List.getD_eq_getElem?_getD]
  cases hx : xs[i]? with
  | none => simp
  | some x => simpa using h x (List.mem_of_getElem? hx)

set_option maxRecDepth 10000 in
theorem reader_node {p : HP} {A : Option Addr} {c : Nat} {bs : List UInt8} (hp : Reads p A bs) (hl : bs.length ≤ 1099511627776) (r q : Nat) (hq : q ≤ bs.length) :
    DoesX Tryd.prog G 86 [.pointer (some ⟨r, 0, none⟩)].toArray [blk r 156 #[.slice A bs.length c, .int .i64 q], p]
      (fun u m => ∃ (nd : FK.Node) (v : Value) (q' : Nat), FK.rdNode bs q = .ok (nd, q') ∧ q' ≤ bs.length ∧ Small nd ∧ u = .agg (nodeCells nd v).toArray ∧ m = [intsAt v nd.after, blk r 156 #[.slice A bs.length c, .int .i64 q'], p])
      (fun x m => ∃ e q' : Nat, FK.rdNode bs q = .error e ∧ x = cutAt e ∧ m = [blk r 156 #[.slice A bs.length c, .int .i64 q'], p]) := by
  refine DoesX.body Tryd.func86 rfl rfl fun E fr hE => ?_
  refine At.app2 ?_
  refine At.seq ?_
  refine At.region ?_
  refine L.op rfl (o_alloc (z := .agg #[.int .i64 0, .int .i64 0, .int .i64 0, .int .i64 0, .int .i64 0, .int .i64 0, .slice none 0 0]) rfl rfl fun b2 => ?_)
  refine L.nil ?_
  refine At.then ?_
  refine At.seq ?_
  refine At.seq ?_
  refine At.region ?_
  refine L.op rfl (o_call rfl rfl rfl hE (fields_does b2) (Ent.refl _) ?_)
  rintro v m ⟨rfl, rfl⟩
  refine At.app0 ?_
  refine L.mv rfl rfl ?_
  refine L.nil ?_
  refine At.then ?_
  refine At.block ?_
  refine At.loop (X := List Int × Nat) (fun x => [(6, .int .i64 (x.1.length : Nat)), (5, .agg (fieldPtrs b2 0)), (2, .pointer (some ⟨b2, 0, none⟩)), (0, .pointer (some ⟨r, 0, none⟩))]) (fun x => blk b2 32 (nodeArr x.1) :: blk r 156 #[.slice A bs.length c, .int .i64 x.2] :: p :: fr) (fun x => x.1.length ≤ 6 ∧ FK.rdNums bs (6 - x.1.length) x.1 x.2 = FK.rdNode bs q ∧ x.2 ≤ bs.length ∧ ∀ y ∈ x.1, 0 ≤ y ∧ y < 2097152) (fun x => 6 - x.1.length) ([], q) ⟨by simp, (FK.rdNode_nums bs q).symm, hq, by simp⟩ ⟨rfl, rfl, rfl, rfl, trivial⟩ (Ent.refl _) ?_
  rintro ⟨xs, q1⟩ ⟨hx6, hx, hq1, hb⟩
  simp only at hx6 hx hq1 hb ⊢
  refine At.seq ?_
  refine At.region ?_
  refine L.pure rfl (ev_lss rfl rfl rfl) ?_
  refine L.nil ?_
  refine At.then ?_
  refine At.seq ?_
  refine At.condD rfl (fun c7 => ?_) (fun c7 => ?_)
  ·
    have hj6 : xs.length < 6 := by omega
    have hsucc : 6 - xs.length = (5 - xs.length) + 1 := by omega
    refine At.skip ?_
    refine At.then ?_
    refine At.seq ?_
    refine At.block ?_
    refine At.seq ?_
    refine At.region ?_
    refine L.pure rfl (ev_index rfl rfl rfl rfl rfl hj6 (ptrs_at b2 xs.length hj6)) ?_
    refine L.as rfl rfl ?_
    refine L.nil ?_
    refine At.then ?_
    refine At.region ?_
    refine L.mv rfl rfl ?_
    refine L.mv rfl rfl ?_
    refine L.op rfl (o_callX rfl rfl rfl hE (reader_number (c := c) hp hl r q1 hq1) (Ent.sel2 (.tail (.head)) (.tail (.head))) ?_ ?_)
    ·
      rintro c m ⟨e, q', he, rfl, rfl⟩
      refine At.app2 ?_
      refine At.inBlockPanic (At.thenPanic (At.roundPanic (At.inBlockPanic (At.thenPanic ?_))))
      exact At.panicX _ ⟨e, q', by rw [← hx, hsucc, rdNums_err he], rfl, rfl⟩ (Ent.cons (Ent.cons Ent.drop))
    rintro v m ⟨y, q3, hy, rfl, rfl⟩
    refine At.app2 ?_
    obtain ⟨hy1, hy2, hy3⟩ := FK.rd_lt hy
    refine L.nc rfl rfl ?_
    refine L.st rfl rfl rfl rfl (by simp [nodeArr]; omega) ?_
    rw [nodeArr_set xs y hj6]
    refine L.nil ?_
    refine At.inBlock (At.then ?_)
    refine At.region ?_
    refine L.pure rfl (ev_add (r := ((xs ++ [(y : Int)]).length : Nat)) rfl rfl (by rw [w64 (by omega)]; simp)) ?_
    refine L.mv rfl rfl ?_
    refine L.nil ?_
    exact At.round (xs ++ [(y : Int)], q3) ⟨by simp only [List.length_append, List.length_cons, List.length_nil]; omega, by rw [← hx, hsucc, rdNums_ok hy]; simp only [List.length_append, List.length_cons, List.length_nil]; rw [show 6 - (xs.length + (0 + 1)) = 5 - xs.length by omega], hy3, fun z hz => (by rcases List.mem_append.1 hz with h | h; exact hb z h; simp at h; omega)⟩ (by simp only [List.length_append, List.length_cons, List.length_nil]; omega) ⟨rfl, rfl, rfl, rfl, trivial⟩ (Ent.refl _)
  ·
    have h6 : xs.length = 6 := by omega
    rw [h6] at hx
    refine At.exit ?_
    refine At.thenExit (At.roundExit (At.inBlockHit (At.then ?_)))
    refine At.seq ?_
    refine At.region ?_
    refine L.mv rfl rfl ?_
    refine L.mv rfl rfl ?_
    refine L.pure rfl (ev_func rfl rfl) ?_
    refine L.op rfl (o_callX rfl rfl rfl hE (list_int (c := c) hp hl r q1 hq1) (Ent.sel2 (.tail (.head)) (.tail (.head))) ?_ ?_)
    ·
      rintro c m ⟨e, q', he, rfl, rfl⟩
      refine At.app2 ?_
      refine At.thenPanic ?_
      exact At.panicX _ ⟨e, q', by rw [← hx, rdNums_bad he], rfl, rfl⟩ (Ent.cons (Ent.cons Ent.drop))
    rintro v m ⟨l, q3, hy, hq3, hlb, rfl⟩
    refine At.app3 ?_
    refine At.formRow .head ?_
    rintro A6 c6 rfl _ _ _ _ _
    refine L.fa 6 rfl rfl rfl ?_
    refine L.st rfl rfl rfl rfl (by simp [nodeArr]) ?_
    rw [nodeArr_after xs l]
    refine L.nil ?_
    refine At.then ?_
    refine At.seq ?_
    refine At.region ?_
    refine L.val rfl (ev_loadN (vs := nodeCells (FK.node7 xs l) (.slice A6 l.length c6)) rfl rfl rfl rfl) (rowAll rfl) ?_
    refine L.op rfl (o_storeN rfl (m := 7) (vs := nodeCells (FK.node7 xs l) (.slice A6 l.length c6)) rfl rfl rfl rfl (by simp [nodeCells, Value.oneCell']) (by simp [nodeCells]) ?_)
    rw [setRow_node]
    refine L.nil ?_
    refine At.then ?_
    refine At.ret ?_
    exact At.endsX (.inl rfl) (At.res1 [_, _, _] rfl (Res.cellN (vs := nodeCells (FK.node7 xs l) (.slice A6 l.length c6)) rfl rfl rfl rfl (rowAll rfl)) ⟨FK.node7 xs l, _, q3, by rw [← hx]; exact rdNums_done hy, hq3, ⟨fun x hx => by simp only [nums, FK.node7, List.mem_cons, List.not_mem_nil, or_false] at hx; rcases hx with rfl | rfl | rfl | rfl | rfl | rfl <;> exact getD_small hb _, hlb⟩, rfl, rfl⟩ Ent.drop)
end Go.Proofs.YtagkobkmaigfcaaDoor
