/- Slices of timers: DeleteFunc. -/
import Derived.Test.YtmeegfamopaljaaGreatDoorFiK
import Derived.Test.YtmeegfamopaljaaGreatDoorFiA
import Derived.Test.YtmeegfamopaljaaGreatDoorFiB
import Derived.Test.YtmeegfamopaljaaGreatDoorFiI
import Derived.Laws.Externs
import Derived.Test.YtmeegfamopaljaaGreatDoorFiH
namespace Go.SL
open Go Go.RowKit
section
variable {P : Program} {E : Env} {n : Nat} {D : List Deferred} {ts : List (Nat × Value)} {l : List HP} {ops : Array Oper} {Q : Exit → Act → World → Prop} {ty : TypeId} {pos : String} {af : Array Edge} {g : Option (Nat × Bool)}
theorem o_clear1 {t e tb : TypeId} {x : Operand} {b o c : Nat} {z : Value} {cs : Array Value} {r : List HP} {d : Option Tmp} {K : Act → World → Prop} [hh : Has b l (.cells cs tb) r] (hd : d = none) (ht : P.underlying t = some (.slice e)) (hz : zeroIs P e z) (hone : z.cells = #[z])
    (hx : ev ts x = some (.slice (some ⟨b, o, none⟩) 1 c)) (hv : z.oneCell' = true) (hi : o < cs.size) (h : At E n D ts (blk b tb (cs.setIfInBounds o z) :: r) K) :
    At E n D ts l (fun a w => (Oper.mk d (.call { callee := .builtin .clear, args := #[x], argTypes := #[t] }) ty pos af g).wp P a w K Q) := fun a w f hw => by
  subst hd
  have hb := (hw.ob hh.sel).1
  have : (execOp a.eval (Oper.mk none (.call { callee := .builtin .clear, args := #[x], argTypes := #[t] }) ty pos af g)).run P w = .ok (.value (.tuple #[])) (w.setCell ⟨b, o, none⟩ z) := by
    simp [execOp, resolve, invoke, builtin, f.eval hx, Builtin.clear_, run_underlying ht, run_zeroIs hz, hone, Builtin.zeroCells, storeCells, add_plain, run_store1 hb hi hv]
  show (Oper.mk none (.call { callee := .builtin .clear, args := #[x], argTypes := #[t] }) ty pos af g).wp P a w K Q
  unfold Oper.wp
  rw [this]
  exact h a _ f (hw.store hh.sel)
theorem ev_tail {t e : TypeId} {x o : Operand} {b m c a d : Nat} {k : IntKind} (ht : P.underlying t = some (.slice e)) (hz : sizeIs P e 1) (hx : ev ts x = some (.slice (some ⟨b, 0, none⟩) m c)) (ho : ev ts o = some (.int k (a : Int))) (h1 : a ≤ m) (h2 : m ≤ c) (hne : c ≠ a) (hd : m - a = d) :
    Ev P ts (.slice t x (some o) none none) (.slice (some ⟨b, a, none⟩) d (c - a)) Any := by
  have := ev_slice (P := P) (lo := some o) (hi := none) (a := a) (b := m) ht hz hx ⟨k, ho⟩ rfl h1 h2
  rw [if_neg hne, hd] at this
  simpa [add_plain] using this
theorem ev_head {t e : TypeId} {x o : Operand} {b m c a : Nat} {k : IntKind} (ht : P.underlying t = some (.slice e)) (hz : sizeIs P e 1) (hx : ev ts x = some (.slice (some ⟨b, 0, none⟩) m c)) (ho : ev ts o = some (.int k (a : Int))) (h2 : a ≤ c) :
    Ev P ts (.slice t x none (some o) none) (.slice (some ⟨b, 0, none⟩) a c) Any := by
  have := ev_slice (P := P) (lo := none) (hi := some o) (a := 0) (b := a) ht hz hx rfl ⟨k, ho⟩ (Nat.zero_le _) h2
  simpa [add_plain] using this
end
end Go.SL
namespace Go.Proofs.YtmeegfamopaljaaGreatDoor
open Go Go.RowKit Go.SL
variable {G : Env → Prop}
def mid (bs : List Nat) (i j : Nat) : List Value := ((bs.eraseIdx i).take (j - 1) ++ bs.drop (j - 1)).map ptr
theorem mid_begin (bs : List Nat) (i : Nat) (hi : i < bs.length) : mid bs i (i + 1) = bs.map ptr := by
  unfold mid
  have : (bs.eraseIdx i).take i = bs.take i := by
    rw [List.eraseIdx_eq_take_drop_succ, List.take_append_of_le_length (by simp; omega), List.take_take, Nat.min_self]
  rw [Nat.add_sub_cancel, this, List.take_append_drop]
theorem mid_at {bs : List Nat} {i j : Nat} {o : Nat} (hij : i < j) (hj : bs[j]? = some o) : (mid bs i j)[j]? = some (ptr o) := by
  have hl := (List.getElem?_eq_some_iff.1 hj).1
  unfold mid
  rw [List.getElem?_map, List.getElem?_append_right (by simp [List.length_eraseIdx]; split <;> omega)]
  have h1 : ((bs.eraseIdx i).take (j - 1)).length = j - 1 := by simp [List.length_eraseIdx]; split <;> omega
  rw [h1, List.getElem?_drop, show j - 1 + (j - (j - 1)) = j by omega, hj]
  rfl
theorem mid_next {bs : List Nat} {i j : Nat} {o : Nat} (hij : i < j) (hj : bs[j]? = some o) : (mid bs i j).set (j - 1) (ptr o) = mid bs i (j + 1) := by
  have hl := (List.getElem?_eq_some_iff.1 hj).1
  have h1 : ((bs.eraseIdx i).take (j - 1)).length = j - 1 := by simp [List.length_eraseIdx]; split <;> omega
  have h2 : (bs.eraseIdx i)[j - 1]? = some o := by
    rw [List.getElem?_eraseIdx, if_neg (by omega), show j - 1 + 1 = j by omega, hj]
  have h3 : bs.drop (j - 1) = bs[j - 1] :: bs.drop j := by
    rw [List.drop_eq_getElem_cons (by omega)]
    congr 2
    omega
  unfold mid
  rw [← List.map_set, List.set_append_right _ _ (by omega), h1, Nat.sub_self, h3, List.set_cons_zero, Nat.add_sub_cancel]
  have h4 := take_more h2
  rw [show j - 1 + 1 = j by omega] at h4
  rw [h4]
  simp
theorem mid_end {bs : List Nat} {i : Nat} (hi : i < bs.length) : (mid bs i bs.length).take (bs.length - 1) = (bs.eraseIdx i).map ptr := by
  unfold mid
  have h1 : (bs.eraseIdx i).length = bs.length - 1 := by simp [List.length_eraseIdx, hi]
  rw [← List.map_take, List.take_append_of_le_length (by simp [h1]), List.take_take, Nat.min_self, List.take_of_length_le (by omega)]
theorem del_end {bs : List Nat} {i c : Nat} {cur : Array Value} {z : Value} (hs : cur.size = c * 1) (ht : cur.toList.take (bs.length * 1) = mid bs i bs.length) (hc : bs.length ≤ c) (hi : i < bs.length) : (cur.setIfInBounds (bs.length - 1) z).toList.take ((bs.length - 1) * 1) = (bs.eraseIdx i).map ptr := by
  rw [← mid_end hi, ← ht, Array.toList_setIfInBounds, List.take_set, List.take_take]
  rw [List.set_eq_of_length_le (by simp; omega)]
  congr 1
  omega
set_option maxRecDepth 10000 in
theorem delete_one {p : HP} {bs : List Nat} (hp : Blks p bs) {A : Option Addr} {c i t cl : Nat} (hi : bs[i]? = some t) (hne : ∀ j, j ≠ i → bs[j]? ≠ some t) (hl : bs.length ≤ 100000) :
    Does Tryz.prog G 225 [.slice A bs.length c, .func (.func 226) #[] #[ptr cl]].toArray [ptrsAt (.slice A bs.length c) bs, blk cl 338 #[ptr t], p]
      fun v m => (∃ A' c', v = .slice A' (bs.eraseIdx i).length c') ∧ m = [ptrsAt v (bs.eraseIdx i), blk cl 338 #[ptr t], p] := by
  have hil := (List.getElem?_eq_some_iff.1 hi).1
  refine Does.body Tryz.func225 rfl rfl fun E fr hE => ?_
  refine At.app3 ?_
  refine At.formRow .head ?_
  intro A' c' hA hnil hform hc1 hc2 _
  injection hA with hA _ hcc
  subst hA; subst hcc
  have hc3 : c ≤ 9223372036854775807 := by unfold maxLen at hc2; omega
  obtain ⟨g, rfl⟩ : ∃ g, A = some ⟨g, 0, none⟩ := by
    cases A with
    | none => have := (hnil rfl).1; omega
    | some ad => obtain ⟨g, rfl⟩ := hform ad rfl; exact ⟨g, rfl⟩
  refine At.seq ?_
  refine At.region ?_
  refine L.as rfl rfl ?_
  refine L.nil ?_
  refine At.then ?_
  refine At.seq ?_
  refine At.region ?_
  refine L.mv rfl rfl ?_
  refine L.mv rfl rfl ?_
  refine L.op rfl (o_call rfl rfl rfl hE (index_of hp hi (fun j hj => hne j (by omega)) hl) (Ent.refl _) ?_)
  rintro v m ⟨rfl, rfl⟩
  refine At.app3 ?_
  refine L.as rfl rfl ?_
  refine L.nil ?_
  refine At.then ?_
  refine At.seq ?_
  refine At.seq ?_
  refine At.region ?_
  refine L.mv rfl rfl ?_
  refine L.pure rfl (ev_eql (r := false) rfl rfl (by rw [decide_eq_false_iff_not]; omega)) ?_
  refine L.nil ?_
  refine At.then ?_
  refine At.condF rfl ?_
  refine At.skip ?_
  refine At.then ?_
  refine At.seq ?_
  refine At.seq ?_
  refine At.region ?_
  refine L.mv rfl rfl ?_
  refine L.pure rfl (ev_add rfl rfl (w64 (by omega))) ?_
  refine L.as rfl rfl ?_
  refine L.nil ?_
  refine At.then ?_
  refine At.block ?_
  refine At.loop (X := Nat) (fun j => [(6, .int .i64 (j : Nat)), (5, .int .i64 (j - 1 : Nat)), (0, .slice (some ⟨g, 0, none⟩) bs.length c), (1, .func (.func 226) #[] #[ptr cl])]) (fun j => row 338 1 (.slice (some ⟨g, 0, none⟩) bs.length c) bs.length (mid bs i j) :: blk cl 338 #[ptr t] :: p :: fr) (fun j => i < j ∧ j ≤ bs.length) (fun j => bs.length - j) (i + 1) (by omega) ⟨rfl, rfl, rfl, rfl, trivial⟩ (by rw [mid_begin bs i hil]; exact Ent.refl _) ?_
  rintro j ⟨hij, hj⟩
  refine At.seq ?_
  refine At.seq ?_
  refine At.region ?_
  refine L.mv rfl rfl ?_
  refine L.mv rfl rfl ?_
  refine L.pure rfl (ev_lenS rfl rfl) ?_
  refine L.pure rfl (ev_lss rfl rfl rfl) ?_
  refine L.nil ?_
  refine At.then ?_
  refine At.condD rfl (fun c19 => ?_) (fun c19 => ?_)
  ·
    have hlt : j < bs.length := by omega
    obtain ⟨o, ho⟩ : ∃ o, bs[j]? = some o := ⟨bs[j], by simp [hlt]⟩
    have hom := List.mem_of_getElem? ho
    have htm := List.mem_of_getElem? hi
    have hot : o ≠ t := fun h => hne j (by omega) (by rw [ho, h])
    refine At.skip ?_
    refine At.then ?_
    refine At.seq ?_
    refine At.block ?_
    refine At.seq ?_
    refine At.region ?_
    refine L.mv rfl rfl ?_
    refine L.mv rfl rfl ?_
    refine L.pure rfl (ev_ixN (z := 1) rfl rfl rfl rfl hlt) ?_
    refine L.val rfl (ev_load1 (v := ptr o) rfl rfl) (cellIn .head (by simpa using mid_at hij ho)) ?_
    refine L.as rfl rfl ?_
    refine L.nil ?_
    refine At.then ?_
    refine At.seq ?_
    refine At.region ?_
    refine L.mv rfl rfl ?_
    refine L.mv rfl rfl ?_
    refine L.op rfl (o_callV rfl rfl rfl rfl hE (drop1 hp o t cl hom htm) (Ent.sel2 (.tail (.head)) (.tail (.head))) ?_)
    rintro v m ⟨rfl, rfl⟩
    refine At.app2 ?_
    refine L.pure rfl (ev_not (r := true) rfl (by simp [hot])) ?_
    refine L.nil ?_
    refine At.then ?_
    refine At.condT rfl ?_
    refine At.seq ?_
    refine At.region ?_
    refine L.mv rfl rfl ?_
    refine L.mv rfl rfl ?_
    refine L.mv rfl rfl ?_
    refine L.pure rfl (ev_ixN (z := 1) rfl rfl rfl rfl (by omega : j - 1 < bs.length)) ?_
    refine L.op rfl (o_storeRow (.tail (.tail (.head))) rfl rfl rfl rfl (by omega) ?_)
    rw [show 0 + (j - 1) * 1 = j - 1 by omega, mid_next hij ho]
    refine L.nil ?_
    refine At.then ?_
    refine At.region ?_
    refine L.mv rfl rfl ?_
    refine L.pure rfl (ev_add (r := ((j + 1 - 1 : Nat) : Int)) rfl rfl (by rw [w64 (by omega)]; omega)) ?_
    refine L.as rfl rfl ?_
    refine L.nil ?_
    refine At.inBlock (At.then ?_)
    refine At.region ?_
    refine L.mv rfl rfl ?_
    refine L.pure rfl (ev_add rfl rfl (w64 (by omega))) ?_
    refine L.as rfl rfl ?_
    refine L.nil ?_
    exact At.round (j + 1) (by omega) (by omega) ⟨rfl, rfl, rfl, rfl, trivial⟩ (Ent.refl _)
  ·
    obtain rfl : j = bs.length := by omega
    have hn1 : (bs.eraseIdx i).length = bs.length - 1 := by simp [List.length_eraseIdx, hil]
    have hca : ¬ c = bs.length - 1 := by omega
    refine At.openRow .head (fun h => by cases h) ?_
    intro g' cap cur hg _ hm hcm hs htk
    injection hg with hg _ hcap
    injection hg with hg
    injection hg with hg
    subst hg; subst hcap
    refine At.exit ?_
    refine At.thenExit (At.roundExit (At.inBlockHit (At.then ?_)))
    refine At.seq ?_
    refine At.region ?_
    refine L.mv rfl rfl ?_
    refine L.mv rfl rfl ?_
    refine L.pure rfl (ev_tail (a := bs.length - 1) (d := 1) rfl rfl rfl rfl (by omega) hc1 hca (by omega)) ?_
    refine L.op rfl (o_clear1 (z := .pointer none) (b := g) (o := bs.length - 1) (c := c - (bs.length - 1)) (cs := cur) rfl rfl rfl rfl rfl rfl (by omega) ?_)
    refine L.nil ?_
    refine At.then ?_
    refine At.seq ?_
    refine At.region ?_
    refine L.mv rfl rfl ?_
    refine L.mv rfl rfl ?_
    refine L.pure rfl (ev_head (a := bs.length - 1) rfl rfl rfl rfl (by omega)) ?_
    refine L.as rfl rfl ?_
    refine L.nil ?_
    refine At.then ?_
    refine At.ret ?_
    exact At.ret1 [_, _, _] rfl rfl ⟨⟨some ⟨g, 0, none⟩, c, by rw [hn1]⟩, rfl⟩ (by rw [ptrsAt, hn1]; exact Ent.closeRow (by omega) hcm (by simpa using hs) (del_end hs htk (by omega) hil))
end Go.Proofs.YtmeegfamopaljaaGreatDoor

namespace Go.SL
open Go Go.RowKit
section
variable {P : Program} {ts : List (Nat × Value)}
theorem ev_indexT {t : TypeId} {x y : Operand} {s : ByteArray} {k : IntKind} {i : Nat} {b : UInt8} (ht : P.underlying t = some .string) (hx : ev ts x = some (.string s)) (hy : ev ts y = some (.int k (i : Int))) (hv : s[i]? = some b) : Ev P ts (.index t x y) (.int .u8 b.toNat) Any := by
  intro a w _ _ _ _ _ kn _
  simp [execOp, kn.eval hx, kn.eval hy, Instr.index, asIntOf, run_underlying ht, hv]
theorem ev_max {t t' : TypeId} {x y : Operand} {k : IntKind} {a b r : Int} (hx : ev ts x = some (.int k a)) (hy : ev ts y = some (.int k b)) (hr : max a b = r) : Ev P ts (.call { callee := .builtin .max, args := #[x, y], argTypes := #[t, t'] }) (.int k r) Any := by
  intro ac w _ _ _ _ _ kn _
  subst hr
  have : max a b = if b > a then b else a := by split <;> omega
  simp [execOp, resolve, invoke, builtin, Builtin.max_, Builtin.max2, kn.eval hx, kn.eval hy, this]
theorem ev_min {t t' : TypeId} {x y : Operand} {k : IntKind} {a b r : Int} (hx : ev ts x = some (.int k a)) (hy : ev ts y = some (.int k b)) (hr : min a b = r) : Ev P ts (.call { callee := .builtin .min, args := #[x, y], argTypes := #[t, t'] }) (.int k r) Any := by
  intro ac w _ _ _ _ _ kn _
  subst hr
  have : min a b = if b < a then b else a := by split <;> omega
  simp [execOp, resolve, invoke, builtin, Builtin.min_, Builtin.min2, kn.eval hx, kn.eval hy, this]
end
end Go.SL
namespace Go.Proofs.YtmeegfamopaljaaGreatDoor
open Go Go.RowKit Go.SL
variable {G : Env → Prop}
def len64 (x : Nat) : Nat := if x = 0 then 0 else Nat.log2 x + 1
theorem len64_shift {x : Nat} (k : Nat) (h : 2 ^ k ≤ x) : len64 x = k + len64 (x / 2 ^ k) := by
  have hp : 0 < 2 ^ k := Nat.two_pow_pos k
  have hx : x ≠ 0 := by omega
  have hq : x / 2 ^ k ≠ 0 := by
    have := Nat.div_pos h hp
    omega
  unfold len64
  rw [if_neg hx, if_neg hq]
  have h1 : Nat.log2 x = k + Nat.log2 (x / 2 ^ k) := by
    rw [Nat.log2_eq_iff hx]
    obtain ⟨h2, h3⟩ := (Nat.log2_eq_iff hq).1 rfl
    constructor
    · rw [Nat.pow_add, Nat.mul_comm]
      exact (Nat.le_div_iff_mul_le hp).1 h2
    · rw [show k + Nat.log2 (x / 2 ^ k) + 1 = (Nat.log2 (x / 2 ^ k) + 1) + k by omega, Nat.pow_add]
      exact (Nat.div_lt_iff_lt_mul hp).1 h3
  omega
def len8 : ByteArray := ⟨((List.range 256).map fun i => UInt8.ofNat (len64 i)).toArray⟩
theorem len64_small {i : Nat} (h : i < 256) : len64 i ≤ 8 := by
  unfold len64
  split
  · omega
  · rename_i h0
    have := (Nat.log2_lt h0).2 (show i < 2 ^ 8 by omega)
    omega
theorem len8_at {i : Nat} (h : i < 256) : len8[i]? = some (UInt8.ofNat (len64 i)) := by
  have : len8.data[i]? = some (UInt8.ofNat (len64 i)) := by simp [len8, h]
  rw [← this]
  rfl
theorem len8_val {i : Nat} (h : i < 256) : (UInt8.ofNat (len64 i)).toNat = len64 i := by
  have := len64_small h
  simp
  omega
theorem shr_nat (x k : Nat) (_hx : x < 18446744073709551616) (hk : k ≤ 64) : ((x : Int)).fdiv (2 ^ min ((k : Int)).toNat IntKind.u64.bits) = ((x / 2 ^ k : Nat) : Int) := by
  have h1 : min ((k : Int)).toNat IntKind.u64.bits = k := by
    show min ((k : Int)).toNat 64 = k
    omega
  rw [h1, Int.fdiv_eq_ediv_of_nonneg _ (Int.le_of_lt (Int.pow_pos (by omega)))]
  simp
set_option maxRecDepth 10000 in
theorem len64_does (x : Nat) (hx : x < 18446744073709551616) : Does Tryz.prog G 227 [.int .u64 x].toArray [] fun v m => v = .int .i64 (len64 x) ∧ m = [] := by
  refine Does.body Tryz.func227 rfl rfl fun E fr hE => ?_
  refine At.app0 ?_
  refine At.seq ?_
  refine At.region ?_
  refine L.as rfl rfl ?_
  refine L.nil ?_
  refine At.then ?_
  refine At.seq (At.cut (X := Nat × Nat) (fun y => [(0, .int .u64 y.1), (2, .int .i64 y.2)]) (fun _ => fr) (fun y => y.1 < 2 ^ 32 ∧ len64 x = y.2 + len64 y.1 ∧ y.2 ≤ 32) ?_ ?_)
  ·
    refine At.seq ?_
    refine At.region ?_
    refine L.mv rfl rfl ?_
    refine L.pure rfl (ev_geq rfl rfl rfl) ?_
    refine L.nil ?_
    refine At.then ?_
    refine At.condD rfl (fun c4 => ?_) (fun c4 => ?_)
    ·
      refine At.seq ?_
      refine At.region ?_
      refine L.mv rfl rfl ?_
      refine L.pure rfl (ev_shr (r := ((x / 2 ^ 32 : Nat) : Int)) rfl rfl (by omega) (shr_nat x 32 hx (by omega))) ?_
      refine L.as rfl rfl ?_
      refine L.nil ?_
      refine At.then ?_
      refine At.region ?_
      refine L.as rfl rfl ?_
      refine L.nil ?_
      exact At.meet (x / 2 ^ 32, 32) ⟨by simp only; omega, len64_shift 32 (by omega), by simp⟩ ⟨rfl, rfl, trivial⟩ (Ent.refl _)
    ·
      refine At.skip ?_
      exact At.meet (x, 0) ⟨by simp only; omega, by simp, by simp⟩ ⟨rfl, rfl, trivial⟩ (Ent.refl _)
  rintro ⟨x1, n1⟩ ⟨h11, h12, h13⟩
  simp only at h11 h12 h13 ⊢
  refine At.seq (At.cut (X := Nat × Nat) (fun y => [(0, .int .u64 y.1), (2, .int .i64 y.2)]) (fun _ => fr) (fun y => y.1 < 2 ^ 16 ∧ len64 x = y.2 + len64 y.1 ∧ y.2 ≤ 48) ?_ ?_)
  ·
    refine At.seq ?_
    refine At.region ?_
    refine L.mv rfl rfl ?_
    refine L.pure rfl (ev_geq rfl rfl rfl) ?_
    refine L.nil ?_
    refine At.then ?_
    refine At.condD rfl (fun c8 => ?_) (fun c8 => ?_)
    ·
      refine At.seq ?_
      refine At.region ?_
      refine L.mv rfl rfl ?_
      refine L.pure rfl (ev_shr (r := ((x1 / 2 ^ 16 : Nat) : Int)) rfl rfl (by omega) (shr_nat x1 16 (by omega) (by omega))) ?_
      refine L.as rfl rfl ?_
      refine L.nil ?_
      refine At.then ?_
      refine At.region ?_
      refine L.mv rfl rfl ?_
      refine L.pure rfl (ev_add (r := ((n1 + 16 : Nat) : Int)) rfl rfl (by rw [w64 (by omega)]; omega)) ?_
      refine L.as rfl rfl ?_
      refine L.nil ?_
      exact At.meet (x1 / 2 ^ 16, n1 + 16) ⟨by simp only; omega, by rw [h12, len64_shift (x := x1) 16 (by omega)]; simp only; omega, by simp only; omega⟩ ⟨rfl, rfl, trivial⟩ (Ent.refl _)
    ·
      refine At.skip ?_
      exact At.meet (x1, n1) ⟨by simp only; omega, h12, by simp only; omega⟩ ⟨rfl, rfl, trivial⟩ (Ent.refl _)
  rintro ⟨x2, n2⟩ ⟨h21, h22, h23⟩
  simp only at h21 h22 h23 ⊢
  refine At.seq (At.cut (X := Nat × Nat) (fun y => [(0, .int .u64 y.1), (2, .int .i64 y.2)]) (fun _ => fr) (fun y => y.1 < 256 ∧ len64 x = y.2 + len64 y.1 ∧ y.2 ≤ 56) ?_ ?_)
  ·
    refine At.seq ?_
    refine At.region ?_
    refine L.mv rfl rfl ?_
    refine L.pure rfl (ev_geq rfl rfl rfl) ?_
    refine L.nil ?_
    refine At.then ?_
    refine At.condD rfl (fun c14 => ?_) (fun c14 => ?_)
    ·
      refine At.seq ?_
      refine At.region ?_
      refine L.mv rfl rfl ?_
      refine L.pure rfl (ev_shr (r := ((x2 / 2 ^ 8 : Nat) : Int)) rfl rfl (by omega) (shr_nat x2 8 (by omega) (by omega))) ?_
      refine L.as rfl rfl ?_
      refine L.nil ?_
      refine At.then ?_
      refine At.region ?_
      refine L.mv rfl rfl ?_
      refine L.pure rfl (ev_add (r := ((n2 + 8 : Nat) : Int)) rfl rfl (by rw [w64 (by omega)]; omega)) ?_
      refine L.as rfl rfl ?_
      refine L.nil ?_
      exact At.meet (x2 / 2 ^ 8, n2 + 8) ⟨by simp only; omega, by rw [h22, len64_shift (x := x2) 8 (by omega)]; simp only; omega, by simp only; omega⟩ ⟨rfl, rfl, trivial⟩ (Ent.refl _)
    ·
      refine At.skip ?_
      exact At.meet (x2, n2) ⟨by simp only; omega, h22, by simp only; omega⟩ ⟨rfl, rfl, trivial⟩ (Ent.refl _)
  rintro ⟨x3, n3⟩ ⟨h31, h32, h33⟩
  simp only at h31 h32 h33 ⊢
  have hsm := len64_small h31
  refine At.seq ?_
  refine At.region ?_
  refine L.mv rfl rfl ?_
  refine L.mv rfl rfl ?_
  refine L.pure rfl (ev_conv (r := (x3 : Int)) rfl rfl rfl (wu8 (by omega))) ?_
  refine L.pure rfl (ev_indexT (s := len8) rfl (by kernel_rfl) rfl (len8_at h31)) ?_
  refine L.pure rfl (ev_conv (r := (len64 x3 : Int)) rfl rfl rfl (by rw [len8_val h31]; exact w64 (by omega))) ?_
  refine L.pure rfl (ev_add (r := ((len64 x : Nat) : Int)) rfl rfl (by rw [w64 (by omega)]; omega)) ?_
  refine L.as rfl rfl ?_
  refine L.nil ?_
  refine At.then ?_
  refine At.ret ?_
  exact At.ret1 [] rfl rfl ⟨rfl, rfl⟩ (Ent.refl _)
end Go.Proofs.YtmeegfamopaljaaGreatDoor

namespace Go.Proofs.YtmeegfamopaljaaGreatDoor
open Go Go.RowKit Go.SL
open FK (upd upd_at upd_off)
def wcN (n : Nat) (f : Nat → Value) : Array Value := ((List.range n).map f).toArray
theorem wcN_at {n : Nat} (f : Nat → Value) {i : Nat} (h : i < n) : (wcN n f)[i]? = some (f i) := by simp [wcN, h]
theorem wcN_size (n : Nat) (f : Nat → Value) : (wcN n f).size = n := by simp [wcN]
theorem wcN_congr {n : Nat} {f g : Nat → Value} (h : ∀ i, i < n → f i = g i) : wcN n f = wcN n g := by
  unfold wcN
  congr 1
  exact List.map_congr_left fun i hi => h i (List.mem_range.1 hi)
theorem wcN_set (n : Nat) (f : Nat → Value) (i : Nat) (v : Value) : (wcN n f).setIfInBounds i v = wcN n (upd f i v) := by
  apply Array.ext
  · simp [wcN]
  · intro j h1 h2
    simp only [wcN, Array.size_setIfInBounds, List.size_toArray, List.length_map, List.length_range] at h1
    by_cases hj : i = j
    · subst hj
      simp [wcN, upd]
    · rw [Array.getElem_setIfInBounds_ne (by simpa [wcN] using h1) hj]
      simp [wcN, upd, Ne.symm hj]
attribute [irreducible] wcN
abbrev wc (f : Nat → Value) : Array Value := wcN 718 f
theorem wc_at (f : Nat → Value) {i : Nat} (h : i < 718) : (wc f)[i]? = some (f i) := wcN_at f h
theorem wc_congr {f g : Nat → Value} (h : ∀ i, i < 718 → f i = g i) : wc f = wc g := wcN_congr h
theorem wc_set (f : Nat → Value) (i : Nat) (v : Value) : (wc f).setIfInBounds i v = wc (upd f i v) := wcN_set 718 f i v
def wcell (now seq : Nat) (sl : Nat → Value) (us : Nat → Nat) (mp : Nat) : Nat → Value := fun i =>
  if i = 0 then .int .u64 now else if i = 1 then .int .u64 seq else if i < 706 then sl (i - 2) else if i < 717 then .int .u64 (us (i - 706)) else .map (some mp)
theorem wcell_now (now seq : Nat) (sl : Nat → Value) (us : Nat → Nat) (mp n' : Nat) : wc (upd (wcell now seq sl us mp) 0 (.int .u64 n')) = wc (wcell n' seq sl us mp) := wc_congr fun i _ => by
  unfold upd wcell
  by_cases h : i = 0 <;> simp [h]
theorem wcell_seq (now seq : Nat) (sl : Nat → Value) (us : Nat → Nat) (mp n' : Nat) : wc (upd (wcell now seq sl us mp) 1 (.int .u64 n')) = wc (wcell now n' sl us mp) := wc_congr fun i _ => by
  unfold upd wcell
  by_cases h : i = 1
  · simp [h]
  · simp [h]
theorem wcell_slot (now seq : Nat) (sl : Nat → Value) (us : Nat → Nat) (mp : Nat) {k : Nat} (hk : k < 704) (v : Value) : wc (upd (wcell now seq sl us mp) (2 + k) v) = wc (wcell now seq (upd sl k v) us mp) := wc_congr fun i _ => by
  unfold wcell
  by_cases h : i = 2 + k
  · subst h
    rw [upd_at, if_neg (by omega), if_neg (by omega), if_pos (by omega), show 2 + k - 2 = k by omega, upd_at]
  · rw [upd_off _ _ h]
    split
    · rfl
    · split
      · rfl
      · split
        · rw [upd_off _ _ (by omega)]
        · rfl
theorem wcell_used (now seq : Nat) (sl : Nat → Value) (us : Nat → Nat) (mp : Nat) {k : Nat} (hk : k < 11) (n' : Nat) : wc (upd (wcell now seq sl us mp) (706 + k) (.int .u64 n')) = wc (wcell now seq sl (upd us k n') mp) := wc_congr fun i _ => by
  unfold wcell
  by_cases h : i = 706 + k
  · subst h
    rw [upd_at, if_neg (by omega), if_neg (by omega), if_neg (by omega), if_pos (by omega), show 706 + k - 706 = k by omega, upd_at]
  · rw [upd_off _ _ h]
    split
    · rfl
    · split
      · rfl
      · split
        · rfl
        · split
          · rw [upd_off _ _ (by omega)]
          · rfl
theorem wcell_at0 (now seq : Nat) (sl : Nat → Value) (us : Nat → Nat) (mp : Nat) : (wc (wcell now seq sl us mp))[0]? = some (.int .u64 now) := wc_at _ (by omega)
theorem wcell_at1 (now seq : Nat) (sl : Nat → Value) (us : Nat → Nat) (mp : Nat) : (wc (wcell now seq sl us mp))[1]? = some (.int .u64 seq) := wc_at _ (by omega)
theorem wcell_atS (now seq : Nat) (sl : Nat → Value) (us : Nat → Nat) (mp : Nat) {k : Nat} (hk : k < 704) : (wc (wcell now seq sl us mp))[2 + k]? = some (sl k) := by
  rw [wc_at _ (by omega)]
  unfold wcell
  rw [if_neg (by omega), if_neg (by omega), if_pos (by omega), show 2 + k - 2 = k by omega]
theorem wcell_atU (now seq : Nat) (sl : Nat → Value) (us : Nat → Nat) (mp : Nat) {k : Nat} (hk : k < 11) : (wc (wcell now seq sl us mp))[706 + k]? = some (.int .u64 (us k)) := by
  rw [wc_at _ (by omega)]
  unfold wcell
  rw [if_neg (by omega), if_neg (by omega), if_neg (by omega), if_pos (by omega), show 706 + k - 706 = k by omega]
theorem wcell_atM (now seq : Nat) (sl : Nat → Value) (us : Nat → Nat) (mp : Nat) : (wc (wcell now seq sl us mp))[717]? = some (.map (some mp)) := wc_at _ (by omega)
def slotN (n : Nat) (sl : Nat → Value) (bs : Nat → List Nat) : List HP := (List.range n).map fun i => ptrsAt (sl i) (bs i)
abbrev slotL (sl : Nat → Value) (bs : Nat → List Nat) : List HP := slotN 704 sl bs
theorem slotN_at {n : Nat} (sl : Nat → Value) (bs : Nat → List Nat) {i : Nat} (h : i < n) : (slotN n sl bs)[i]? = some (ptrsAt (sl i) (bs i)) := by simp [slotN, h]
theorem slotN_length (n : Nat) (sl : Nat → Value) (bs : Nat → List Nat) : (slotN n sl bs).length = n := by simp [slotN]
theorem slotN_set {n : Nat} (sl : Nat → Value) (bs : Nat → List Nat) (i : Nat) (v : Value) (b : List Nat) : slotN n (upd sl i v) (upd bs i b) = (slotN n sl bs).set i (ptrsAt v b) := by
  unfold slotN
  apply List.ext_getElem
  · simp
  · intro j h1 h2
    simp only [List.getElem_map, List.getElem_range, List.getElem_set]
    by_cases hj : i = j
    · subst hj
      simp [upd]
    · simp [upd, hj, Ne.symm hj]
attribute [irreducible] slotN
def slots (sl : Nat → Value) (bs : Nat → List Nat) : HP := HP.all (slotL sl bs)
def slotsBut (sl : Nat → Value) (bs : Nat → List Nat) (i : Nat) : HP := HP.all ((slotL sl bs).eraseIdx i)
theorem Ent.pick : ∀ {l : List HP} {i : Nat} {p : HP}, l[i]? = some p → Ent l (p :: l.eraseIdx i)
  | [], _, _, h => by simp at h
  | q :: l, 0, p, h => by
    simp at h; subst h
    exact Ent.refl _
  | q :: l, i + 1, p, h => (Ent.cons (Ent.pick (l := l) (by simpa using h))).trans (Ent.perm (List.Perm.swap _ _ _))
theorem Ent.unpick : ∀ (l : List HP) (i : Nat) (p : HP), i < l.length → Ent (p :: l.eraseIdx i) (l.set i p)
  | [], _, _, h => by simp at h
  | q :: l, 0, p, _ => Ent.refl _
  | q :: l, i + 1, p, h => (Ent.perm (List.Perm.swap _ _ _)).trans (Ent.cons (Ent.unpick l i p (by simpa using h)))
theorem slots_open {sl : Nat → Value} {bs : Nat → List Nat} {i : Nat} (hi : i < 704) {fr : List HP} : Ent (slots sl bs :: fr) (ptrsAt (sl i) (bs i) :: slotsBut sl bs i :: fr) :=
  (Ent.unall (m := slotL sl bs)).trans (((Ent.pick (slotN_at sl bs hi)).append fr).trans (Ent.cons (Ent.all (m := (slotL sl bs).eraseIdx i))))
theorem slots_close {sl : Nat → Value} {bs : Nat → List Nat} {i : Nat} (hi : i < 704) {v : Value} {b : List Nat} {fr : List HP} : Ent (ptrsAt v b :: slotsBut sl bs i :: fr) (slots (upd sl i v) (upd bs i b) :: fr) := by
  have h1 := (Ent.unpick (slotL sl bs) i (ptrsAt v b) (by rw [slotN_length]; exact hi)).append fr
  have e : (slotL sl bs).set i (ptrsAt v b) = slotL (upd sl i v) (upd bs i b) := (slotN_set sl bs i v b).symm
  rw [e] at h1
  exact ((Ent.cons (Ent.unall (m := (slotL sl bs).eraseIdx i))).trans h1).trans (Ent.all (m := slotL (upd sl i v) (upd bs i b)))
end Go.Proofs.YtmeegfamopaljaaGreatDoor

namespace Go.SL
open Go Go.RowKit
section
variable {P : Program} {ts : List (Nat × Value)}
theorem ev_ixAN {t e : TypeId} {x y : Operand} {k : IntKind} {i b o o' n z : Nat} (ht : P.underlying t = some (.array n e)) (hz : sizeIs P e z) (hx : ev ts x = some (.pointer (some ⟨b, o, none⟩))) (hy : ev ts y = some (.int k (i : Int))) (h1 : i < n) (ho : o + i * z = o') :
    Ev P ts (.indexAddr t x y) (.pointer (some ⟨b, o', none⟩)) Any := by
  have := ev_ixA (P := P) ht hz hx hy (by omega) (by omega)
  subst ho
  simpa using this
end
end Go.SL
namespace Go.Proofs.YtmeegfamopaljaaGreatDoor
open Go Go.RowKit Go.SL
open FK (upd upd_at upd_off)
variable {G : Env → Prop}
theorem wu64 {a : Nat} (h : a < 18446744073709551616) : IntKind.u64.wrap (a : Int) = (a : Int) := by rw [mu64]; omega
theorem xor_nat {a b : Nat} (ha : a < 18446744073709551616) (hb : b < 18446744073709551616) : bits .xor .u64 (a : Int) (b : Int) = ((a ^^^ b : Nat) : Int) := by
  have h1 : a ^^^ b < 18446744073709551616 := Nat.xor_lt_two_pow (n := 64) ha hb
  have e : bits .xor .u64 (a : Int) (b : Int) = IntKind.u64.wrap (((BitVec.ofInt 64 (a : Int)) ^^^ (BitVec.ofInt 64 (b : Int))).toNat : Int) := rfl
  rw [e, BitVec.toNat_xor, BitVec.ofInt_natCast, BitVec.ofInt_natCast, BitVec.toNat_ofNat, BitVec.toNat_ofNat, Nat.mod_eq_of_lt ha, Nat.mod_eq_of_lt hb, wu64 h1]
theorem or_nat {a b : Nat} (ha : a < 18446744073709551616) (hb : b < 18446744073709551616) : bits .or .u64 (a : Int) (b : Int) = ((a ||| b : Nat) : Int) := by
  have h1 : a ||| b < 18446744073709551616 := Nat.or_lt_two_pow (n := 64) ha hb
  have e : bits .or .u64 (a : Int) (b : Int) = IntKind.u64.wrap (((BitVec.ofInt 64 (a : Int)) ||| (BitVec.ofInt 64 (b : Int))).toNat : Int) := rfl
  rw [e, BitVec.toNat_or, BitVec.ofInt_natCast, BitVec.ofInt_natCast, BitVec.toNat_ofNat, BitVec.toNat_ofNat, Nat.mod_eq_of_lt ha, Nat.mod_eq_of_lt hb, wu64 h1]
theorem clr_nat {a s : Nat} (ha : a < 18446744073709551616) (hs : s < 64) : bits .andNot .u64 (a : Int) ((2 ^ s : Nat) : Int) = ((FK.clr a s : Nat) : Int) := by
  have hb : (2 : Nat) ^ s < 18446744073709551616 := Nat.pow_lt_pow_right (a := 2) (m := s) (n := 64) (by omega) hs
  have e : bits .andNot .u64 (a : Int) ((2 ^ s : Nat) : Int) = IntKind.u64.wrap (((BitVec.ofInt 64 (a : Int)) &&& ~~~ (BitVec.ofInt 64 ((2 ^ s : Nat) : Int))).toNat : Int) := rfl
  have h2 : a &&& (2 ^ 64 - 1 - 2 ^ s) = FK.clr a s := by
    unfold FK.clr
    congr 1
    omega
  rw [e, BitVec.toNat_and, BitVec.toNat_not, BitVec.ofInt_natCast, BitVec.ofInt_natCast, BitVec.toNat_ofNat, BitVec.toNat_ofNat, Nat.mod_eq_of_lt ha, Nat.mod_eq_of_lt hb, h2, wu64 (FK.clr_lt ha)]
theorem shl_one {s : Nat} (hs : s < 64) : IntKind.u64.wrap ((1 : Int) * 2 ^ min ((s : Int)).toNat IntKind.u64.bits) = ((2 ^ s : Nat) : Int) := by
  have hb : (2 : Nat) ^ s < 18446744073709551616 := Nat.pow_lt_pow_right (a := 2) (m := s) (n := 64) (by omega) hs
  have h1 : min ((s : Int)).toNat IntKind.u64.bits = s := by
    show min ((s : Int)).toNat 64 = s
    omega
  rw [h1, Int.one_mul, show ((2 : Int) ^ s) = ((2 ^ s : Nat) : Int) by simp, wu64 hb]
theorem lev_len (x : Nat) : (len64 x - 1) / 6 = Nat.log2 x / 6 := by
  unfold len64
  split
  · rename_i h; subst h; rfl
  · rw [Nat.add_sub_cancel]
theorem len64_le {x : Nat} (hx : x < 18446744073709551616) : len64 x ≤ 64 := by
  unfold len64
  split
  · omega
  · rename_i h0
    have := (Nat.log2_lt h0).2 (show x < 2 ^ 64 from hx)
    omega
abbrev plA (p : FK.Pl) : Array Value := #[.int .u64 p.run, .int .i64 p.node, .int .i64 p.what]
abbrev plV (p : FK.Pl) : Value := .agg (plA p)
abbrev tmBlk (t : FK.Tmr) : HP := blk t.blk 340 #[.int .u64 t.key.run, .int .i64 t.key.node, .int .i64 t.key.what, .int .u64 t.due, .int .u64 t.seq, .int .i64 t.lvl, .int .i64 t.slot]
def tmrs (l : List FK.Tmr) : HP := HP.all (l.map tmBlk)
def byOf (l : List FK.Tmr) : List (FK.Pl × Value) := l.map fun t => (t.key, ptr t.blk)
abbrev whl (w : Nat) (S : FK.WS) (sl : Nat → Value) (mp : Nat) : HP := blk w 337 (wc (wcell S.now S.seq sl S.us mp))
def wheelAt (w : Nat) (S : FK.WS) : HP := HP.ex fun p : (Nat → Value) × Nat => HP.all [whl w S p.1 p.2, slots p.1 S.bs, tmrs S.tms, vmap plV p.2 (byOf S.tms)]
theorem At.openWheel {E : Env} {n : Nat} {D : List Deferred} {ts : List (Nat × Value)} {l r : List HP} {K : Act → World → Prop} {w : Nat} {S : FK.WS} (s : Sel (wheelAt w S) l r)
    (h : ∀ sl mp, At E n D ts (whl w S sl mp :: slots sl S.bs :: tmrs S.tms :: vmap plV mp (byOf S.tms) :: r) K) : At E n D ts l K := by
  refine At.ex s fun p => ?_
  exact At.openAll (h p.1 p.2)
theorem Ent.closeWheel {w : Nat} {S : FK.WS} {sl : Nat → Value} {mp : Nat} {r : List HP} : Ent (whl w S sl mp :: slots sl S.bs :: tmrs S.tms :: vmap plV mp (byOf S.tms) :: r) (wheelAt w S :: r) :=
  (Ent.all (m := [whl w S sl mp, slots sl S.bs, tmrs S.tms, vmap plV mp (byOf S.tms)])).trans (Ent.ex (f := fun p : (Nat → Value) × Nat => HP.all [whl w S p.1 p.2, slots p.1 S.bs, tmrs S.tms, vmap plV p.2 (byOf S.tms)]) (sl, mp))
theorem tmrs_open {a b : List FK.Tmr} {t : FK.Tmr} {r : List HP} : Ent (tmrs (a ++ t :: b) :: r) (tmBlk t :: tmrs (a ++ b) :: r) := by
  refine (Ent.unall (m := (a ++ t :: b).map tmBlk)).trans ?_
  have h : ((a ++ t :: b).map tmBlk ++ r).Perm (tmBlk t :: ((a ++ b).map tmBlk ++ r)) := by
    have : ((a ++ t :: b).map tmBlk).Perm (tmBlk t :: (a ++ b).map tmBlk) := by
      have h0 := (List.perm_middle (a := t) (l₁ := a) (l₂ := b)).map tmBlk
      rwa [List.map_cons] at h0
    exact this.append_right r
  exact (Ent.perm h).trans (Ent.cons (Ent.all (m := (a ++ b).map tmBlk)))
theorem tmrs_close {a b : List FK.Tmr} {t : FK.Tmr} {r : List HP} : Ent (tmBlk t :: tmrs (a ++ b) :: r) (tmrs (a ++ t :: b) :: r) := by
  refine (Ent.cons (Ent.unall (m := (a ++ b).map tmBlk))).trans ?_
  have h : (tmBlk t :: ((a ++ b).map tmBlk ++ r)).Perm ((a ++ t :: b).map tmBlk ++ r) := by
    have : (tmBlk t :: (a ++ b).map tmBlk).Perm ((a ++ t :: b).map tmBlk) := by
      have h0 := ((List.perm_middle (a := t) (l₁ := a) (l₂ := b)).map tmBlk).symm
      rwa [List.map_cons] at h0
    exact this.append_right r
  exact (Ent.perm h).trans (Ent.all (m := (a ++ t :: b).map tmBlk))
theorem tmrs_mem {w : World} {F : Nat → Prop} {l : List FK.Tmr} (h : (tmrs l).sat w F) {t : FK.Tmr} (ht : t ∈ l) : w.heap[t.blk]? = some (.cells #[.int .u64 t.key.run, .int .i64 t.key.node, .int .i64 t.key.what, .int .u64 t.due, .int .u64 t.seq, .int .i64 t.lvl, .int .i64 t.slot] 340) :=
  (Star.mem h (List.mem_map_of_mem ht)).2
theorem tmCell {E : Env} {l : List FK.Tmr} {m r : List HP} {t : FK.Tmr} {i : Nat} {v : Value} (s : Sel (tmrs l) m r) (ht : t ∈ l) (hv : (#[Value.int .u64 t.key.run, .int .i64 t.key.node, .int .i64 t.key.what, .int .u64 t.due, .int .u64 t.seq, .int .i64 t.lvl, .int .i64 t.slot])[i]? = some v) : ∀ w, Holds E w m → CellIs ⟨t.blk, i, none⟩ v w := fun w hw => by
  obtain ⟨F1, _, _, _, _, hp, _⟩ := (hw.sel s).star
  have := tmrs_mem hp ht
  simp [CellIs, World.cell?, this, hv]
def sqOf (l : List FK.Tmr) (b : Nat) : Nat := ((l.find? (·.blk == b)).map (·.seq)).getD 0
theorem tmrs_find {l : List FK.Tmr} {b : Nat} (h : ∃ u ∈ l, u.blk = b) : ∃ u ∈ l, u.blk = b ∧ sqOf l b = u.seq := by
  obtain ⟨u, hu, e⟩ := h
  cases hf : l.find? (·.blk == b) with
  | none =>
    have := List.find?_eq_none.1 hf u hu
    simp [e] at this
  | some v =>
    have h1 := List.find?_some hf
    exact ⟨v, List.mem_of_find?_eq_some hf, by simpa using h1, by simp [sqOf, hf]⟩
theorem tmrs_below {l : List FK.Tmr} {bs : List Nat} {n : Nat} (h : ∀ b ∈ bs, ∃ u ∈ l, u.blk = b) (hlt : ∀ u ∈ l, u.blk ∈ bs → u.seq < n) : Below' (tmrs l) bs (sqOf l) n := by
  constructor
  · intro b hb
    obtain ⟨u, hu, e, hs⟩ := tmrs_find (h b hb)
    rw [hs]
    exact hlt u hu (e ▸ hb)
  · intro w F hs b hb
    obtain ⟨u, hu, e, hq⟩ := tmrs_find (h b hb)
    have := tmrs_mem hs hu
    rw [hq, ← e]
    simp [World.cell?, this]
theorem tmrs_blks {l : List FK.Tmr} {bs : List Nat} (h : ∀ b ∈ bs, ∃ u ∈ l, u.blk = b) : Blks (tmrs l) bs := by
  intro w F hs b hb
  obtain ⟨u, hu, e⟩ := h b hb
  have := tmrs_mem hs hu
  rw [e] at this
  exact ⟨_, _, this⟩
theorem slot_len {S : FK.WS} {un : List Nat} (h : FK.Inv S un) (hl : S.tms.length ≤ 100000) {i : Nat} (hi : i < 704) : (S.bs i).length ≤ 100000 := by
  rw [h.slot i hi, List.length_map]
  exact Nat.le_trans (List.length_filter_le _ _) hl
end Go.Proofs.YtmeegfamopaljaaGreatDoor

namespace Go.Proofs.YtmeegfamopaljaaGreatDoor
open Go Go.RowKit Go.SL Go.Extern
structure Good (E : Env) : Prop where
  tab : ∀ w, E.is w → Tab w
  err : ∀ w, E.is w → w.cell? ⟨0, 0, none⟩ = some (.iface 314 (.agg #[.pointer (some ⟨Tryz.prog.globals.size, 109, none⟩)]))
noncomputable abbrev hnd (t : TypeId) : Value := .pointer (some ⟨Tryz.prog.globals.size, t, none⟩)
noncomputable abbrev rt (t : TypeId) : Value := .iface 314 (.agg #[hnd t])
noncomputable abbrev rv (t : TypeId) (b k : Nat) : Value := .agg #[hnd t, .pointer (some ⟨b, 0, none⟩), .int .u64 k]
theorem ext_find {f : FuncId} {fn : Func} {e : Array Value → Sem Value} (hf : Tryz.prog.funcs[f]? = some fn) (hname : (fn.name == "runtime.NumGoroutine") = false) (hb : fn.body.isNone = true) (hn : Extern.findNext fn = none) (he : Extern.find fn = some e)
    {args : Array Value} {w w' : World} {v : Value} (h : (e args).run Tryz.prog w = .ok v w') : (callFunc f args).run Tryz.prog w = .ok (.value v) w' := by
  rw [run_callFunc_extern hf hname hb hn he, h]; rfl
theorem mKind (h : Value) (w : World) : (Go.method (Tryz.prog.types.size + Made.depth) 314 (.agg #[h]) "Kind").run Tryz.prog w = .ok (322, h) w := by kernel_rfl
theorem mElem (h : Value) (w : World) : (Go.method (Tryz.prog.types.size + Made.depth) 314 (.agg #[h]) "Elem").run Tryz.prog w = .ok (361, .agg #[h]) w := by kernel_rfl
theorem mImplements (h : Value) (w : World) : (Go.method (Tryz.prog.types.size + Made.depth) 314 (.agg #[h]) "Implements").run Tryz.prog w = .ok (362, .agg #[h]) w := by kernel_rfl
theorem mAssignableTo (h : Value) (w : World) : (Go.method (Tryz.prog.types.size + Made.depth) 314 (.agg #[h]) "AssignableTo").run Tryz.prog w = .ok (359, .agg #[h]) w := by kernel_rfl
theorem mComparable (h : Value) (w : World) : (Go.method (Tryz.prog.types.size + Made.depth) 314 (.agg #[h]) "Comparable").run Tryz.prog w = .ok (360, .agg #[h]) w := by kernel_rfl
theorem mUnwrap (p : Addr) (w : World) : (Go.method (Tryz.prog.types.size + Made.depth) 159 (.pointer (some p)) "Unwrap").run Tryz.prog w = .ok (353, .pointer (some p)) w := by kernel_rfl
theorem find0 {args : Array Value} {w w' : World} {v : Value} (h : ((fun args => ReflectliteValue.unpack (args.getD 0 (.tuple #[]))) args).run Tryz.prog w = .ok v w') : (callFunc 144 args).run Tryz.prog w = .ok (.value v) w' :=
  ext_find (e := (fun args => ReflectliteValue.unpack (args.getD 0 (.tuple #[])))) Tryz.func144 (by kernel_rfl) (by kernel_rfl) (by kernel_rfl) (by kernel_rfl) h
theorem valueOfPF (t : Nat) (w : World) : (callFunc 144 #[.iface 161 (.pointer (some ⟨t, 0, none⟩))]).run Tryz.prog w = .ok (.value (rv 161 w.heap.size 150)) (w.alloc (.cells #[.pointer (some ⟨t, 0, none⟩)] 161)) := find0 (by kernel_rfl)
theorem valueOfF (e : Addr) (w : World) : (callFunc 144 #[.iface 159 (.pointer (some e))]).run Tryz.prog w = .ok (.value (rv 159 w.heap.size 150)) (w.alloc (.cells #[.pointer (some e)] 159)) := find0 (by kernel_rfl)
theorem find1 {args : Array Value} {w w' : World} {v : Value} (h : ((ReflectliteValue.methodAny (ReflectliteValue.valueError "reflectlite.Value.Type" 0) (fun t _ _ _ => ReflectliteType.toType t)) args).run Tryz.prog w = .ok v w') : (callFunc 145 args).run Tryz.prog w = .ok (.value v) w' :=
  ext_find (e := (ReflectliteValue.methodAny (ReflectliteValue.valueError "reflectlite.Value.Type" 0) (fun t _ _ _ => ReflectliteType.toType t))) Tryz.func145 (by kernel_rfl) (by kernel_rfl) (by kernel_rfl) (by kernel_rfl) h
theorem typePF (b : Nat) (w : World) : (callFunc 145 #[rv 161 b 150]).run Tryz.prog w = .ok (.value (rt 161)) w := find1 (by kernel_rfl)
theorem find2 {args : Array Value} {w w' : World} {v : Value} (h : ((ReflectliteType.abiMethod fun t => Functor.map (fun a : Nat => Value.int IntKind.u8 (a : Int)) (Rtype.kind t)) args).run Tryz.prog w = .ok v w') : (callFunc 322 args).run Tryz.prog w = .ok (.value v) w' :=
  ext_find (e := (ReflectliteType.abiMethod fun t => Functor.map (fun a : Nat => Value.int IntKind.u8 (a : Int)) (Rtype.kind t))) Tryz.func322 (by kernel_rfl) (by kernel_rfl) (by kernel_rfl) (by kernel_rfl) h
theorem kindPF (w : World) : (callFunc 322 #[hnd 161]).run Tryz.prog w = .ok (.value (.int .u8 22)) w := find2 (by kernel_rfl)
theorem kindF (w : World) : (callFunc 322 #[hnd 159]).run Tryz.prog w = .ok (.value (.int .u8 22)) w := find2 (by kernel_rfl)
theorem find3 {args : Array Value} {w w' : World} {v : Value} (h : ((ReflectliteType.method ReflectliteType.elem) args).run Tryz.prog w = .ok v w') : (callFunc 361 args).run Tryz.prog w = .ok (.value v) w' :=
  ext_find (e := (ReflectliteType.method ReflectliteType.elem)) Tryz.func361 (by kernel_rfl) (by kernel_rfl) (by kernel_rfl) (by kernel_rfl) h
theorem elemPF (w : World) : (callFunc 361 #[.agg #[hnd 161]]).run Tryz.prog w = .ok (.value (rt 159)) w := find3 (by kernel_rfl)
theorem find4 {args : Array Value} {w w' : World} {v : Value} (h : ((ReflectliteType.relation "Implements" ReflectliteType.implements_) args).run Tryz.prog w = .ok v w') : (callFunc 362 args).run Tryz.prog w = .ok (.value v) w' :=
  ext_find (e := (ReflectliteType.relation "Implements" ReflectliteType.implements_)) Tryz.func362 (by kernel_rfl) (by kernel_rfl) (by kernel_rfl) (by kernel_rfl) h
theorem implementsF (w : World) : (callFunc 362 #[.agg #[hnd 159], rt 109]).run Tryz.prog w = .ok (.value (.bool true)) w := find4 (by kernel_rfl)
theorem find5 {args : Array Value} {w w' : World} {v : Value} (h : (ReflectliteType.typeOf args).run Tryz.prog w = .ok v w') : (callFunc 148 args).run Tryz.prog w = .ok (.value v) w' :=
  ext_find (e := ReflectliteType.typeOf) Tryz.func148 (by kernel_rfl) (by kernel_rfl) (by kernel_rfl) (by kernel_rfl) h
theorem typeOfF (v : Value) (w : World) : (callFunc 148 #[.iface 159 v]).run Tryz.prog w = .ok (.value (rt 159)) w := find5 (by kernel_rfl)
theorem find6 {args : Array Value} {w w' : World} {v : Value} (h : ((ReflectliteType.relation "AssignableTo" ReflectliteType.assignableTo) args).run Tryz.prog w = .ok v w') : (callFunc 359 args).run Tryz.prog w = .ok (.value v) w' :=
  ext_find (e := (ReflectliteType.relation "AssignableTo" ReflectliteType.assignableTo)) Tryz.func359 (by kernel_rfl) (by kernel_rfl) (by kernel_rfl) (by kernel_rfl) h
theorem assignableF (w : World) : (callFunc 359 #[.agg #[hnd 159], rt 159]).run Tryz.prog w = .ok (.value (.bool true)) w := find6 (by kernel_rfl)
theorem find7 {args : Array Value} {w w' : World} {v : Value} (h : ((ReflectliteType.method fun t => do Rtype.noPackHeld "Comparable" t; pure (.bool (← typeInfo t).comparable)) args).run Tryz.prog w = .ok v w') : (callFunc 360 args).run Tryz.prog w = .ok (.value v) w' :=
  ext_find (e := (ReflectliteType.method fun t => do Rtype.noPackHeld "Comparable" t; pure (.bool (← typeInfo t).comparable))) Tryz.func360 (by kernel_rfl) (by kernel_rfl) (by kernel_rfl) (by kernel_rfl) h
theorem valueOfPN (t : Nat) (w : World) : (callFunc 144 #[.iface 165 (.pointer (some ⟨t, 0, none⟩))]).run Tryz.prog w = .ok (.value (rv 165 w.heap.size 150)) (w.alloc (.cells #[.pointer (some ⟨t, 0, none⟩)] 165)) := find0 (by kernel_rfl)
theorem valueOfN (x : Int) (w : World) : (callFunc 144 #[.iface 48 (.int .i64 x)]).run Tryz.prog w = .ok (.value (rv 48 w.heap.size 130)) (w.alloc (.cells #[.int .i64 x] 48)) := find0 (by kernel_rfl)
theorem typePN (b : Nat) (w : World) : (callFunc 145 #[rv 165 b 150]).run Tryz.prog w = .ok (.value (rt 165)) w := find1 (by kernel_rfl)
theorem kindPN (w : World) : (callFunc 322 #[hnd 165]).run Tryz.prog w = .ok (.value (.int .u8 22)) w := find2 (by kernel_rfl)
theorem kindN (w : World) : (callFunc 322 #[hnd 48]).run Tryz.prog w = .ok (.value (.int .u8 2)) w := find2 (by kernel_rfl)
theorem elemPN (w : World) : (callFunc 361 #[.agg #[hnd 165]]).run Tryz.prog w = .ok (.value (rt 48)) w := find3 (by kernel_rfl)
theorem implementsN (w : World) : (callFunc 362 #[.agg #[hnd 48], rt 109]).run Tryz.prog w = .ok (.value (.bool true)) w := find4 (by kernel_rfl)
theorem typeOfN (v : Value) (w : World) : (callFunc 148 #[.iface 48 v]).run Tryz.prog w = .ok (.value (rt 48)) w := find5 (by kernel_rfl)
theorem assignableN (w : World) : (callFunc 359 #[.agg #[hnd 48], rt 48]).run Tryz.prog w = .ok (.value (.bool true)) w := find6 (by kernel_rfl)
theorem comparableN (w : World) : (callFunc 360 #[.agg #[hnd 48]]).run Tryz.prog w = .ok (.value (.bool true)) w := find7 (by kernel_rfl)
theorem assignableNF (w : World) : (callFunc 359 #[.agg #[hnd 48], rt 159]).run Tryz.prog w = .ok (.value (.bool false)) w := find6 (by kernel_rfl)
theorem rlm (z : Sem Value) (f : TypeId → Addr → Nat → Nat → Sem Value) (v : Value) :
    ReflectliteValue.method z f #[v] = (do match ← ReflectliteValue.parts v with | none => z | some (t, a, fl) => f t a fl (fl % 32)) := rfl
theorem rls (v x : Value) : ReflectliteValue.set #[v, x] = (do
    let (some (dst, a, fl), some (src, b, _)) := (← ReflectliteValue.parts v, ← ReflectliteValue.parts x)
      | unsupported (.noEntry "extern/(internal/reflectlite.Value).Set.zeroValue")
    if fl / ReflectliteValue.flagAddr % 2 == 0 then unsupported (.noEntry "extern/(internal/reflectlite.Value).Set.unaddressable")
    let val ← loadVar src b
    if ← Rtype.directlyAssignable dst src then storeVar dst a val
    else if ← Rtype.implements dst src then
      if (← Rtype.kind src) == 20 then
        match val with
        | .nilIface => unsupported (.noEntry "extern/reflectlite: a nil value of one interface type handed on as a value of another")
        | _ => storeVar dst a val
      else storeVar dst a (.iface src val)
    else panicString ("reflectlite.Set: value of type " ++ (← Rtype.spelt src) ++ " is not assignable to type " ++ (← Rtype.spelt dst))
    pure (.tuple #[])) := rfl
theorem findIsNil {args : Array Value} {w w' : World} {v : Value} (h : ((ReflectliteValue.method (ReflectliteValue.valueError "reflectlite.Value.IsNil" 0) ReflectliteValue.isNil) args).run Tryz.prog w = .ok v w') : (callFunc 146 args).run Tryz.prog w = .ok (.value v) w' :=
  ext_find (e := (ReflectliteValue.method (ReflectliteValue.valueError "reflectlite.Value.IsNil" 0) ReflectliteValue.isNil)) Tryz.func146 (by kernel_rfl) (by kernel_rfl) (by kernel_rfl) (by kernel_rfl) h
theorem findElem {args : Array Value} {w w' : World} {v : Value} (h : ((ReflectliteValue.method (ReflectliteValue.valueError "reflectlite.Value.Elem" 0) ReflectliteValue.elem) args).run Tryz.prog w = .ok v w') : (callFunc 197 args).run Tryz.prog w = .ok (.value v) w' :=
  ext_find (e := (ReflectliteValue.method (ReflectliteValue.valueError "reflectlite.Value.Elem" 0) ReflectliteValue.elem)) Tryz.func197 (by kernel_rfl) (by kernel_rfl) (by kernel_rfl) (by kernel_rfl) h
theorem findSet {args : Array Value} {w w' : World} {v : Value} (h : (ReflectliteValue.set args).run Tryz.prog w = .ok v w') : (callFunc 198 args).run Tryz.prog w = .ok (.value v) w' :=
  ext_find (e := ReflectliteValue.set) Tryz.func198 (by kernel_rfl) (by kernel_rfl) (by kernel_rfl) (by kernel_rfl) h
theorem partsPF (b : Nat) (w : World) : (ReflectliteValue.parts (rv 161 b 150)).run Tryz.prog w = .ok (some (161, ⟨b, 0, none⟩, 150)) w := by kernel_rfl
theorem partsAF (b : Nat) (w : World) : (ReflectliteValue.parts (rv 159 b 406)).run Tryz.prog w = .ok (some (159, ⟨b, 0, none⟩, 406)) w := by kernel_rfl
theorem partsVF (b : Nat) (w : World) : (ReflectliteValue.parts (rv 159 b 150)).run Tryz.prog w = .ok (some (159, ⟨b, 0, none⟩, 150)) w := by kernel_rfl
theorem mkF (b : Nat) (w : World) : (ReflectliteValue.mk 159 ⟨b, 0, none⟩ ReflectliteValue.flagAddr).run Tryz.prog w = .ok (rv 159 b 406) w := by kernel_rfl
theorem elemOfF (w : World) : (Rtype.elem? 161).run Tryz.prog w = .ok (some 159) w := by kernel_rfl
theorem directF (w : World) : (Rtype.directlyAssignable 159 159).run Tryz.prog w = .ok true w := by kernel_rfl
theorem isNilPF (a p : Nat) (w : World) (ha : CellIs ⟨a, 0, none⟩ (.pointer (some ⟨p, 0, none⟩)) w) : (callFunc 146 #[rv 161 a 150]).run Tryz.prog w = .ok (.value (.bool false)) w :=
  findIsNil (by
    rw [rlm]
    simp only [Sem.run_bind, partsPF, Result.andThen]
    have := run_loadVar1 (P := Tryz.prog) (t := 161) (by kernel_rfl) ha
    simp [ReflectliteValue.isNil, this, Result.andThen])
theorem elemVF (a p : Nat) (w : World) (ha : CellIs ⟨a, 0, none⟩ (.pointer (some ⟨p, 0, none⟩)) w) : (callFunc 197 #[rv 161 a 150]).run Tryz.prog w = .ok (.value (rv 159 p 406)) w :=
  findElem (by
    rw [rlm]
    simp only [Sem.run_bind, partsPF, Result.andThen]
    have := run_loadVar1 (P := Tryz.prog) (t := 161) (by kernel_rfl) ha
    simp [ReflectliteValue.elem, this, Result.andThen, elemOfF, mkF])
theorem setF (ta b : Nat) (e : Addr) (old : Value) (w : World) (hb : CellIs ⟨b, 0, none⟩ (.pointer (some e)) w) (ht : w.heap[ta]? = some (.cells #[old] 159)) :
    (callFunc 198 #[rv 159 ta 406, rv 159 b 150]).run Tryz.prog w = .ok (.value (.tuple #[])) (w.setCell ⟨ta, 0, none⟩ (.pointer (some e))) :=
  findSet (by
    rw [rls]
    simp only [Sem.run_bind, partsAF, partsVF, Result.andThen]
    have h1 := run_loadVar1 (P := Tryz.prog) (t := 159) (by kernel_rfl) hb
    have h2 := run_store1 (P := Tryz.prog) (i := 0) (v := .pointer (some e)) ht (by simp) rfl
    have h3 := run_sizeIs (P := Tryz.prog) (t := 159) (n := 1) (by unfold sizeIs; kernel_rfl) w
    simp [ReflectliteValue.flagAddr, h1, Result.andThen, directF, storeVar, Value.cells, storeCells, Addr.add, h2, h3])
theorem partsPN (b : Nat) (w : World) : (ReflectliteValue.parts (rv 165 b 150)).run Tryz.prog w = .ok (some (165, ⟨b, 0, none⟩, 150)) w := by kernel_rfl
theorem partsAN (b : Nat) (w : World) : (ReflectliteValue.parts (rv 48 b 386)).run Tryz.prog w = .ok (some (48, ⟨b, 0, none⟩, 386)) w := by kernel_rfl
theorem partsVN (b : Nat) (w : World) : (ReflectliteValue.parts (rv 48 b 130)).run Tryz.prog w = .ok (some (48, ⟨b, 0, none⟩, 130)) w := by kernel_rfl
theorem mkN (b : Nat) (w : World) : (ReflectliteValue.mk 48 ⟨b, 0, none⟩ ReflectliteValue.flagAddr).run Tryz.prog w = .ok (rv 48 b 386) w := by kernel_rfl
theorem elemOfN (w : World) : (Rtype.elem? 165).run Tryz.prog w = .ok (some 48) w := by kernel_rfl
theorem directN (w : World) : (Rtype.directlyAssignable 48 48).run Tryz.prog w = .ok true w := by kernel_rfl
theorem isNilPN (a p : Nat) (w : World) (ha : CellIs ⟨a, 0, none⟩ (.pointer (some ⟨p, 0, none⟩)) w) : (callFunc 146 #[rv 165 a 150]).run Tryz.prog w = .ok (.value (.bool false)) w :=
  findIsNil (by
    rw [rlm]
    simp only [Sem.run_bind, partsPN, Result.andThen]
    have := run_loadVar1 (P := Tryz.prog) (t := 165) (by kernel_rfl) ha
    simp [ReflectliteValue.isNil, this, Result.andThen])
theorem elemVN (a p : Nat) (w : World) (ha : CellIs ⟨a, 0, none⟩ (.pointer (some ⟨p, 0, none⟩)) w) : (callFunc 197 #[rv 165 a 150]).run Tryz.prog w = .ok (.value (rv 48 p 386)) w :=
  findElem (by
    rw [rlm]
    simp only [Sem.run_bind, partsPN, Result.andThen]
    have := run_loadVar1 (P := Tryz.prog) (t := 165) (by kernel_rfl) ha
    simp [ReflectliteValue.elem, this, Result.andThen, elemOfN, mkN])
theorem setN (ta b : Nat) (e : Int) (old : Value) (w : World) (hb : CellIs ⟨b, 0, none⟩ (.int .i64 e) w) (ht : w.heap[ta]? = some (.cells #[old] 48)) :
    (callFunc 198 #[rv 48 ta 386, rv 48 b 130]).run Tryz.prog w = .ok (.value (.tuple #[])) (w.setCell ⟨ta, 0, none⟩ (.int .i64 e)) :=
  findSet (by
    rw [rls]
    simp only [Sem.run_bind, partsAN, partsVN, Result.andThen]
    have h1 := run_loadVar1 (P := Tryz.prog) (t := 48) (by kernel_rfl) hb
    have h2 := run_store1 (P := Tryz.prog) (i := 0) (v := .int .i64 e) ht (by simp) rfl
    have h3 := run_sizeIs (P := Tryz.prog) (t := 48) (n := 1) (by unfold sizeIs; kernel_rfl) w
    simp [ReflectliteValue.flagAddr, h1, Result.andThen, directN, storeVar, Value.cells, storeCells, Addr.add, h2, h3])
end Go.Proofs.YtmeegfamopaljaaGreatDoor
