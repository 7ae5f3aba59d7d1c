/- Numbers out of bytes, byte by byte; nodes, number by number: plain laws. -/
import Derived.Test.YtmeegfamopaljaaGreatDoorFiA
import Derived.Laws.BitsAllLaws
import Derived.Laws.BitsLemmas
import Derived.WalkKit
import Derived.Test.YtmeegfamopaljaaGreatDoorFiI
namespace FK
def rdGo (b : List UInt8) (p : Nat) : Nat → Nat → Nat → Except Nat (Nat × Nat)
  | 0, _, _ => .error p
  | k + 1, i, n => match b[p + i]? with
    | none => .error p
    | some c => if c.toNat < 128 then (if c.toNat = 0 ∧ 0 < i then .error p else .ok (n + c.toNat * 128 ^ i, p + i + 1)) else rdGo b p k (i + 1) (n + c.toNat % 128 * 128 ^ i)
theorem rd_go (b : List UInt8) (p : Nat) : rd b p = rdGo b p 3 0 0 := by
  unfold rd
  simp only [rdGo, Nat.add_zero]
  cases h0 : b[p]? with
  | none => rfl
  | some c =>
    simp only
    by_cases hc : c.toNat < 128
    · simp [hc]
    · simp only [hc, if_false, Nat.zero_add]
      cases h1 : b[p + 1]? with
      | none => rfl
      | some d =>
        simp only
        by_cases hd : d.toNat < 128
        · simp only [hd, if_true]
          by_cases hz : d.toNat = 0
          · simp [hz]
          · simp [hz]
        · simp only [hd, if_false]
          cases h2 : b[p + 2]? with
          | none => rfl
          | some e =>
            simp only
            by_cases he : e.toNat < 128
            · simp only [he, if_true]
              by_cases hz : e.toNat = 0
              · simp [hz]
              · simp [hz]
            · simp only [he, if_false]
theorem rd_lt {b : List UInt8} {p n q : Nat} (h : rd b p = .ok (n, q)) : n < 2097152 ∧ p < q ∧ q ≤ b.length := by
  unfold rd at h
  split at h
  · cases h
  · rename_i c hc
    have hl0 := (List.getElem?_eq_some_iff.1 hc).1
    split at h
    · injection h with h; injection h with h1 h2; omega
    · split at h
      · cases h
      · rename_i d hd
        have hl1 := (List.getElem?_eq_some_iff.1 hd).1
        split at h
        · split at h
          · cases h
          · injection h with h; injection h with h1 h2; omega
        · split at h
          · cases h
          · rename_i e he
            have hl2 := (List.getElem?_eq_some_iff.1 he).1
            split at h
            · split at h
              · cases h
              · injection h with h; injection h with h1 h2; omega
            · cases h
def node7 (l : List Int) (after : List Int) : Node := ⟨l.getD 0 0, l.getD 1 0, l.getD 2 0, l.getD 3 0, l.getD 4 0, l.getD 5 0, after⟩
def rdNums (b : List UInt8) : Nat → List Int → Rd Node
  | 0, l, p => andThen (rdList b (rdInt b) p) fun after p => .ok (node7 l after, p)
  | k + 1, l, p => andThen (rdInt b p) fun x p => rdNums b k (l ++ [x]) p
theorem rdNode_nums (b : List UInt8) (p : Nat) : rdNode b p = rdNums b 6 [] p := rfl
end FK
namespace Go
theorem or_shift (i n c : Nat) (hn : n < 128 ^ i) (hi : i ≤ 2) (hc : c < 128) : bits BinOp.or IntKind.i64 (n : Int) ((c * 128 ^ i : Nat) : Int) = ((n + c * 128 ^ i : Nat) : Int) := by
  have h7 : 128 ^ i = 2 ^ (7 * i) := by rw [Nat.pow_mul]
  have hle : c * 128 ^ i + n < 2 ^ 63 := by
    have : i = 0 ∨ i = 1 ∨ i = 2 := by omega
    rcases this with rfl | rfl | rfl <;> simp at hn ⊢ <;> omega
  have hw : ∀ n : Int, 0 ≤ n → n < 2 ^ 63 → IntKind.i64.wrap n = n := fun n h1 h2 => by
    have h3 : (2 : Int) ^ 63 = 9223372036854775808 := by decide
    exact IntWalk.i64_in n (by omega)
  have := (bits_nat .i64 63 (by decide) hw n (c * 128 ^ i) (by omega) (by omega)).2
  rw [this, h7]
  have h2 := Nat.two_pow_add_eq_or_of_lt (i := 7 * i) (b := n) (by rw [← h7]; exact hn) c
  rw [Nat.or_comm, Nat.mul_comm c, ← h2, Nat.add_comm]
theorem and_127 (c : Nat) (hc : c < 256) : bits BinOp.and IntKind.u8 (c : Int) 127 = ((c % 128 : Nat) : Int) := by
  have := u8_and_nat c 127 (by omega) (by omega)
  rw [show ((127 : Int)) = ((127 : Nat) : Int) from rfl, this]
  have key : ∀ x : Fin 256, x.val &&& 127 = x.val % 128 := by decide +kernel
  rw [key ⟨c, hc⟩]
end Go

namespace Go.Proofs.YtmeegfamopaljaaGreatDoor
open Go Go.RowKit Go.SL
variable {G : Env → Prop}
structure Reads (p : HP) (A : Option Addr) (bs : List UInt8) : Prop where
  form : bs ≠ [] → ∃ b o, A = some ⟨b, o, none⟩
  cell : ∀ w F, p.sat w F → ∀ b o, A = some ⟨b, o, none⟩ → ∀ (j : Nat) (x : UInt8), bs[j]? = some x → w.cell? ⟨b, o + j, none⟩ = some (.int .u8 x.toNat)
theorem Reads.at {E : Env} {p : HP} {A : Option Addr} {bs : List UInt8} {l r : List HP} {b o j : Nat} {x : UInt8} (h : Reads p A bs) (s : Sel p l r) (hA : A = some ⟨b, o, none⟩) (hx : bs[j]? = some x) : ∀ w, Holds E w l → CellIs ⟨b, o + j, none⟩ (.int .u8 x.toNat) w := fun w hw => by
  obtain ⟨F1, _, _, _, _, hp, _⟩ := (hw.sel s).star
  exact h.cell w F1 hp b o hA j x hx
theorem shl7 (c i : Nat) (hc : c < 128) (hi : i ≤ 2) : IntKind.i64.wrap ((c : Int) * 2 ^ min (7 * (i : Int)).toNat IntKind.i64.bits) = ((c * 128 ^ i : Nat) : Int) := by
  have : i = 0 ∨ i = 1 ∨ i = 2 := by omega
  rcases this with rfl | rfl | rfl
  · exact w64 (x := (c : Int) * 1) (by omega)
  · exact w64 (x := (c : Int) * 128) (by omega)
  · exact w64 (x := (c : Int) * 16384) (by omega)
set_option maxRecDepth 10000 in
theorem reader_number {p : HP} {A : Option Addr} {c : Nat} {bs : List UInt8} (hp : Reads p A bs) (hl : bs.length ≤ 1099511627776) (r q : Nat) (hq : q ≤ bs.length) :
    DoesX Tryz.prog G 151 [.pointer (some ⟨r, 0, none⟩)].toArray [blk r 240 #[.slice A bs.length c, .int .i64 q], p]
      (fun u m => ∃ n q' : Nat, FK.rd bs q = .ok (n, q') ∧ u = .int .i64 n ∧ m = [blk r 240 #[.slice A bs.length c, .int .i64 q'], p])
      (fun x m => ∃ e q' : Nat, FK.rd bs q = .error e ∧ x = [{ v := .iface 237 (.int .i64 e), recovered := false }] ∧ m = [blk r 240 #[.slice A bs.length c, .int .i64 q'], p]) := by
  refine DoesX.body Tryz.func151 rfl rfl fun E fr hE => ?_
  refine At.app2 ?_
  refine At.seq ?_
  refine At.region ?_
  refine L.as rfl rfl ?_
  refine L.nil ?_
  refine At.then ?_
  refine At.seq ?_
  refine At.region ?_
  refine L.mv rfl rfl ?_
  refine L.nc rfl rfl ?_
  refine L.fa 1 rfl rfl rfl ?_
  refine L.ld rfl rfl rfl rfl ?_
  refine L.as rfl rfl ?_
  refine L.as rfl rfl ?_
  refine L.nil ?_
  refine At.then ?_
  refine At.seq (At.cut (X := Nat) (fun _ => [(3, .int .i64 q)]) (fun q' => [blk r 240 #[.slice A bs.length c, .int .i64 q'], p] ++ fr) (fun _ => FK.rd bs q = .error q) ?_ ?_)
  ·
    refine At.seq ?_
    refine At.region ?_
    refine L.mv rfl rfl ?_
    refine L.nil ?_
    refine At.then ?_
    refine At.block ?_
    refine At.loop (X := Nat × Nat) (fun x => [(11, .int .i64 x.1), (4, .int .i64 x.2), (3, .int .i64 q), (0, .pointer (some ⟨r, 0, none⟩))]) (fun x => blk r 240 #[.slice A bs.length c, .int .i64 (q + x.1 : Nat)] :: p :: fr) (fun x => x.1 ≤ 3 ∧ x.2 < 128 ^ x.1 ∧ FK.rdGo bs q (3 - x.1) x.1 x.2 = FK.rd bs q ∧ q + x.1 ≤ bs.length) (fun x => 3 - x.1) (0, 0) ⟨by omega, by simp, (FK.rd_go bs q).symm, hq⟩ ⟨rfl, rfl, rfl, rfl, trivial⟩ (Ent.refl _) ?_
    rintro ⟨i, n⟩ ⟨hi, hn, hgo, hqi⟩
    simp only at hi hn hgo hqi ⊢
    refine At.seq ?_
    refine At.region ?_
    refine L.pure rfl (ev_lss rfl rfl rfl) ?_
    refine L.nil ?_
    refine At.then ?_
    refine At.seq ?_
    refine At.condD rfl (fun c12 => ?_) (fun c12 => ?_)
    ·
      have hi2 : i ≤ 2 := by omega
      refine At.skip ?_
      refine At.then ?_
      refine At.seq ?_
      refine At.block ?_
      refine At.seq ?_
      refine At.region ?_
      refine L.mv rfl rfl ?_
      refine L.as rfl rfl ?_
      refine L.nil ?_
      refine At.then ?_
      refine At.seq ?_
      refine At.seq ?_
      refine Dr.start rfl ?_
      refine Dr.p 0 rfl rfl (by kernel_rfl) (ev_move rfl) ?_
      refine Dr.p 1 rfl rfl (by kernel_rfl) (ev_nil rfl) ?_
      refine Dr.p 2 rfl rfl (by kernel_rfl) (ev_field (off := 1) rfl rfl) ?_
      refine Dr.ld 3 rfl rfl (by kernel_rfl) (ev_load1 rfl rfl) (cellIs rfl) ?_
      refine Dr.p 4 rfl rfl (by kernel_rfl) (ev_move rfl) ?_
      refine Dr.p 5 rfl rfl (by kernel_rfl) (ev_nil rfl) ?_
      refine Dr.p 6 rfl rfl (by kernel_rfl) (ev_field (off := 0) rfl rfl) ?_
      refine Dr.ld 7 rfl rfl (by kernel_rfl) (ev_load1 rfl rfl) (cellIs rfl) ?_
      refine Dr.p 8 rfl rfl (by kernel_rfl) (ev_lenS rfl rfl) ?_
      refine Dr.p 9 rfl rfl (by kernel_rfl) (ev_eql rfl rfl rfl) ?_
      refine Dr.done (by kernel_rfl) ?_
      refine At.then ?_
      refine At.condD rfl (fun c23 => ?_) (fun c23 => ?_)
      ·
        refine At.exit ?_
        refine At.thenExit (At.inBlockMiss rfl (At.thenExit (At.roundExit (At.inBlockHit ?_))))
        exact At.meet (q + i) (by rw [← hgo, show 3 - i = (2 - i) + 1 by omega, FK.rdGo, List.getElem?_eq_none (by omega)]) ⟨rfl, trivial⟩ (Ent.refl _)
      ·
        have hlt : q + i < bs.length := by omega
        obtain ⟨b, o, hA⟩ := hp.form (by intro h; simp [h] at hlt)
        obtain ⟨x, hx⟩ : ∃ x, bs[q + i]? = some x := ⟨bs[q + i], by simp [hlt]⟩
        have hxl := x.toNat_lt
        have hpow : 128 ^ i ≤ 16384 := Nat.pow_le_pow_right (by omega) (by omega : i ≤ 2)
        have hstep := hgo
        rw [show 3 - i = (2 - i) + 1 by omega, FK.rdGo, hx] at hstep
        simp only at hstep
        refine At.skip ?_
        refine At.then ?_
        refine At.seq ?_
        refine Dr.start rfl ?_
        refine Dr.p 0 rfl rfl (by kernel_rfl) (ev_move rfl) ?_
        refine Dr.p 1 rfl rfl (by kernel_rfl) (ev_nil rfl) ?_
        refine Dr.p 2 rfl rfl (by kernel_rfl) (ev_field (off := 0) rfl rfl) ?_
        refine Dr.ld 3 rfl rfl (by kernel_rfl) (ev_load1 rfl rfl) (cellIs rfl) ?_
        refine Dr.p 4 rfl rfl (by kernel_rfl) (ev_move rfl) ?_
        refine Dr.p 5 rfl rfl (by kernel_rfl) (ev_nil rfl) ?_
        refine Dr.p 6 rfl rfl (by kernel_rfl) (ev_field (off := 1) rfl rfl) ?_
        refine Dr.ld 7 rfl rfl (by kernel_rfl) (ev_load1 rfl rfl) (cellIs rfl) ?_
        refine Dr.p 8 rfl rfl (by kernel_rfl) (ev_ixN (z := 1) rfl rfl (by rw [hA]; rfl) rfl hlt) ?_
        refine Dr.ld 9 rfl rfl (by kernel_rfl) (ev_load1 rfl rfl) (hp.at (.tail (.head)) hA (by simpa using hx)) ?_
        refine Dr.p 10 rfl rfl (by kernel_rfl) (ev_assign rfl) ?_
        refine Dr.done (by kernel_rfl) ?_
        refine At.then ?_
        refine At.seq ?_
        refine At.region ?_
        refine L.mv rfl rfl ?_
        refine L.nc rfl rfl ?_
        refine L.fa 1 rfl rfl rfl ?_
        refine L.ld rfl rfl rfl rfl ?_
        refine L.pure rfl (ev_add rfl rfl (w64 (by omega))) ?_
        refine L.nc rfl rfl ?_
        refine L.fa 1 rfl rfl rfl ?_
        refine L.st rfl rfl rfl rfl (by first | decide | simp | (simp; omega)) ?_
        refine L.nil ?_
        refine At.then ?_
        refine At.seq ?_
        refine At.region ?_
        refine L.mv rfl rfl ?_
        refine L.mv rfl rfl ?_
        refine L.pure rfl (ev_and rfl rfl (and_127 _ hxl)) ?_
        refine L.pure rfl (ev_conv rfl rfl rfl (w64 (by omega))) ?_
        refine L.mv rfl rfl ?_
        refine L.pure rfl (ev_mul rfl rfl (w64 (by omega))) ?_
        refine L.pure rfl (ev_shl rfl rfl (by omega) (shl7 (x.toNat % 128) i (by omega) hi2)) ?_
        refine L.pure rfl (ev_or rfl rfl (or_shift i n (x.toNat % 128) hn hi2 (by omega))) ?_
        refine L.as rfl rfl ?_
        refine L.nil ?_
        refine At.then ?_
        refine At.seq ?_
        refine At.region ?_
        refine L.mv rfl rfl ?_
        refine L.pure rfl (ev_lss rfl rfl rfl) ?_
        refine L.nil ?_
        refine At.then ?_
        refine At.condD rfl (fun c50 => ?_) (fun c50 => ?_)
        ·
          rw [if_pos (by omega)] at hstep
          have hm : x.toNat % 128 = x.toNat := Nat.mod_eq_of_lt (by omega)
          refine At.seq ?_
          refine At.seq ?_
          refine At.region ?_
          refine L.mv rfl rfl ?_
          refine L.bool rfl (ev_eql rfl rfl rfl) (fun _ _ => trivial) fun c52 e52 => ?_
          refine L.mv rfl rfl ?_
          refine L.abs c52 (by rfl) ?_
          refine L.g rfl rfl (fun _ => rfl) (ev_move rfl) (fun _ _ => trivial) ?_
          refine L.abs c52 (by rfl) ?_
          refine L.g rfl rfl (fun _ => rfl) (ev_gtr rfl rfl rfl) (fun _ _ => trivial) ?_
          refine L.bool rfl (ev_pickAnd rfl rfl rfl) (fun _ _ => trivial) fun c56 e56 => ?_
          refine L.nil ?_
          refine At.then ?_
          refine At.cond rfl (fun c56 => ?_) (fun c56 => ?_)
          ·
            simp only [e56, e52, Bool.and_eq_true, decide_eq_true_eq] at c56
            refine At.exit ?_
            refine At.thenExit (At.inBlockMiss rfl (At.thenExit (At.roundExit (At.inBlockHit ?_))))
            exact At.meet (q + i + 1) (by rw [← hstep, if_pos (by omega)]) ⟨rfl, trivial⟩ (Ent.refl _)
          ·
            rw [if_neg (by intro h; rw [e56, e52] at c56; simp at c56; omega)] at hstep
            refine At.skip ?_
            refine At.then ?_
            refine At.seq ?_
            refine At.region ?_
            refine L.mv rfl rfl ?_
            refine L.as rfl rfl ?_
            refine L.nil ?_
            refine At.then ?_
            refine At.ret ?_
            refine At.inBlockRet (At.thenRet (At.roundRet (At.inBlockRet (At.meetRet ?_))))
            exact At.endsX (.inl rfl) (At.ret1 _ rfl rfl ⟨n + x.toNat % 128 * 128 ^ i, q + i + 1, by rw [← hstep, hm], rfl, rfl⟩ (Ent.refl _))
        ·
          rw [if_neg (by omega)] at hstep
          refine At.skip ?_
          refine At.inBlock (At.then ?_)
          refine At.region ?_
          refine L.pure rfl (ev_add rfl rfl (w64 (by omega))) ?_
          refine L.mv rfl rfl ?_
          refine L.nil ?_
          exact At.round (i + 1, n + x.toNat % 128 * 128 ^ i) ⟨by simp only; omega, by rw [Nat.pow_succ]; have := Nat.mul_le_mul_right (128 ^ i) (show x.toNat % 128 ≤ 127 by omega); simp only; omega, by show FK.rdGo bs q (3 - (i + 1)) (i + 1) _ = _; rw [show 3 - (i + 1) = 2 - i by omega]; exact hstep, by simp only; omega⟩ (by simp only; omega) ⟨rfl, rfl, rfl, rfl, trivial⟩ (Ent.refl _)
    ·
      obtain rfl : i = 3 := by omega
      refine At.exit ?_
      refine At.thenExit (At.roundExit (At.inBlockHit ?_))
      exact At.meet (q + 3) hgo.symm ⟨rfl, trivial⟩ (Ent.refl _)
  intro q' hbad
  refine At.region ?_
  refine L.mv rfl rfl ?_
  refine L.pure rfl (ev_iface rfl rfl rfl) ?_
  refine L.op rfl (o_panic rfl ?_)
  exact At.panicX _ ⟨q, q', hbad, rfl, rfl⟩ (Ent.refl _)
end Go.Proofs.YtmeegfamopaljaaGreatDoor

namespace Go.Proofs.YtmeegfamopaljaaGreatDoor
open Go Go.RowKit Go.SL
variable {G : Env → Prop}
def encI (k : Int) : List UInt8 := FK.encN k.toNat
def encTo (d : Nat) (ns : List FK.Node) (k : Nat) : List UInt8 := FK.encN d ++ FK.encN ns.length ++ (ns.take k).flatMap FK.encNode
theorem encTo_next {d : Nat} {ns : List FK.Node} {k : Nat} {nd : FK.Node} (h : ns[k]? = some nd) : encTo d ns (k + 1) = encTo d ns k ++ FK.encNode nd := by
  obtain ⟨hk, hn⟩ := List.getElem?_eq_some_iff.1 h
  unfold encTo
  rw [List.take_succ_eq_append_getElem hk, hn]
  simp
theorem encTo_len {d : Nat} {ns : List FK.Node} (hd : d ≤ 1048576) (hl : ns.length ≤ 12) (ho : ∀ n ∈ ns, FK.NodeOk n ∧ FK.EdgesOk ns.length (-1) n.after) (k : Nat) : (encTo d ns k).length ≤ 700 := by
  have h := flat_len FK.encNode 57 (ns.take k) fun n hn => by
    have := ho n (List.mem_of_mem_take hn)
    exact encNode_len hl this.1 this.2
  have h1 := FK.encN_length_le (n := d) (by omega)
  have h2 := FK.encN_length_le (n := ns.length) (by omega)
  have h3 : (ns.take k).length ≤ 12 := by simp; omega
  have h4 : 57 * (ns.take k).length ≤ 57 * 12 := Nat.mul_le_mul_left _ h3
  unfold encTo
  simp only [List.length_append]
  omega
theorem ptrs_at (b : Nat) : ∀ j, j < 6 → (fieldPtrs b 0)[j]? = some (.pointer (some ⟨b, j, none⟩))
  | 0, _ => rfl | 1, _ => rfl | 2, _ => rfl | 3, _ => rfl | 4, _ => rfl | 5, _ => rfl
  | j + 6, h => by omega
theorem flat_take {α : Type} (f : α → List UInt8) (l : List α) (j : Nat) : ((l.take j).flatMap f).length ≤ (l.flatMap f).length := by
  have : l.flatMap f = (l.take j).flatMap f ++ (l.drop j).flatMap f := by rw [← List.flatMap_append, List.take_append_drop]
  rw [this]; simp
theorem take_more {α : Type} {l : List α} {j : Nat} {x : α} (h : l[j]? = some x) : l.take (j + 1) = l.take j ++ [x] := by
  obtain ⟨h1, h2⟩ := List.getElem?_eq_some_iff.1 h
  rw [List.take_succ_eq_append_getElem h1, h2]
def nodeVals (nd : FK.Node) (A6 : Option Addr) (c6 : Nat) : List Value := [.int .i64 nd.budget, .int .i64 nd.close, .int .i64 nd.beat, .int .i64 nd.base, .int .i64 nd.cap, .int .i64 nd.jitter, .slice A6 nd.after.length c6]
theorem nums_at (nd : FK.Node) (A6 : Option Addr) (c6 : Nat) : ∀ j, j < 6 → ∃ x, (nums nd)[j]? = some x ∧ (nodeVals nd A6 c6)[j]? = some (.int .i64 x)
  | 0, _ => ⟨_, rfl, rfl⟩ | 1, _ => ⟨_, rfl, rfl⟩ | 2, _ => ⟨_, rfl, rfl⟩ | 3, _ => ⟨_, rfl, rfl⟩ | 4, _ => ⟨_, rfl, rfl⟩ | 5, _ => ⟨_, rfl, rfl⟩
  | j + 6, h => by omega
theorem setRow_all (z0 z1 z2 z3 z4 z5 z6 : Value) (nd : FK.Node) (A6 : Option Addr) (c6 : Nat) : setRow #[z0, z1, z2, z3, z4, z5, z6] 0 (nodeVals nd A6 c6) = (nodeVals nd A6 c6).toArray := by simp [setRow, nodeVals]
theorem NodeAt.row {w : World} {B b off : Nat} {nd : FK.Node} (h : NodeAt w B b off nd) : ∃ A6 c6, (∀ j v, (nodeVals nd A6 c6)[j]? = some v → w.cell? ⟨b, off + j, none⟩ = some v) ∧ IntsAt w B A6 c6 nd.after := by
  obtain ⟨h0, h1, h2, h3, h4, h5, ⟨A, c, h6, hi⟩, _⟩ := h
  refine ⟨A, c, fun j v hj => ?_, hi⟩
  match j, hj with
  | 0, hj => injection hj with hj; subst hj; exact h0
  | 1, hj => injection hj with hj; subst hj; exact h1
  | 2, hj => injection hj with hj; subst hj; exact h2
  | 3, hj => injection hj with hj; subst hj; exact h3
  | 4, hj => injection hj with hj; subst hj; exact h4
  | 5, hj => injection hj with hj; subst hj; exact h5
  | 6, hj => injection hj with hj; subst hj; exact h6
  | j + 7, hj => simp [nodeVals] at hj
theorem nums_ok {nd : FK.Node} (h : FK.NodeOk nd) : ∀ x ∈ nums nd, 0 ≤ x ∧ x ≤ 1048576 := by
  obtain ⟨a1, a2, ⟨b1, b2⟩, ⟨c1, c2⟩, ⟨d1, d2⟩, ⟨e1, e2⟩, f1, f2⟩ := h
  intro x hx
  simp only [nums, List.mem_cons, List.not_mem_nil, or_false] at hx
  rcases hx with rfl | rfl | rfl | rfl | rfl | rfl <;> omega
set_option maxRecDepth 10000 in
theorem Bytes_gives (d : Nat) (A : Option Addr) (c : Nat) (ns : List FK.Node) (hd : d ≤ 1048576) (hl : ns.length ≤ 12) (ho : ∀ n ∈ ns, FK.NodeOk n ∧ FK.EdgesOk ns.length (-1) n.after) :
    Gives Tryz.prog G 90 [.agg #[.int .i64 d, .slice A ns.length c]].toArray (fun w => NodesAt w w.heap.size A c ns) fun v m => m = [bytesAt v (FK.encFlow ⟨d, ns⟩)] := by
  have hlen := encTo_len hd hl ho
  refine Gives.body Tryz.func90 rfl rfl fun E w0 hE h0 hN => ?_
  refine At.seq ?_
  refine At.region ?_
  refine L.op rfl (o_box rfl rfl fun b1 => ?_)
  refine L.as rfl rfl ?_
  refine L.nil ?_
  refine At.then ?_
  refine At.seq ?_
  refine Dr.start rfl ?_
  refine Dr.p 0 rfl rfl (by kernel_rfl) (ev_field (off := 0) rfl rfl) ?_
  refine Dr.ld 1 rfl rfl (by kernel_rfl) (ev_load1 rfl rfl) (cellIs rfl) ?_
  refine Dr.p 2 rfl rfl (by kernel_rfl) (ev_conv rfl rfl rfl (wu64 (by omega))) ?_
  refine Dr.p 4 rfl rfl (by kernel_rfl) (ev_field (off := 1) rfl rfl) ?_
  refine Dr.ld 5 rfl rfl (by kernel_rfl) (ev_load1 rfl rfl) (cellIs rfl) ?_
  refine Dr.p 6 rfl rfl (by kernel_rfl) (ev_lenS rfl rfl) ?_
  refine Dr.p 7 rfl rfl (by kernel_rfl) (ev_conv rfl rfl rfl (wu64 (by omega))) ?_
  refine Dr.run 3 rfl rfl (by kernel_rfl) (o_call rfl rfl rfl hE (number_does _ [] d (by omega) (by simp)) Ent.row0 ?_)
  rintro v m rfl
  refine At.app1 ?_
  obtain ⟨v13, hv13⟩ : ∃ v13, v13 = v := ⟨_, rfl⟩
  refine Dr.kept [true, true] (by kernel_rfl) (Kept.cons (cellIs rfl) (Kept.cons (cellIs rfl) Kept.nil)) ?_
  refine Dr.run 8 rfl rfl (by kernel_rfl) (o_call rfl rfl rfl hE (number_does _ _ ns.length (by omega) (by have := FK.encN_length_le (n := d) (by omega); simp; omega)) (Ent.refl _) ?_)
  rintro v m rfl
  refine At.app1 ?_
  refine Dr.kept [true, true] (by kernel_rfl) (Kept.cons (cellIs rfl) (Kept.cons (cellIs rfl) Kept.nil)) ?_
  refine Dr.p 9 rfl rfl (by kernel_rfl) (ev_assign rfl) ?_
  refine Dr.done (by kernel_rfl) ?_
  refine At.then ?_
  refine At.seq ?_
  refine At.seq ?_
  refine At.region ?_
  refine L.fa 1 rfl rfl rfl ?_
  refine L.ld rfl rfl rfl rfl ?_
  refine L.pure rfl (ev_lenS rfl rfl) ?_
  refine L.mv rfl rfl ?_
  refine L.nil ?_
  refine At.then ?_
  refine At.block ?_
  refine At.loop (X := Nat × Value) (fun x => [(22, .int .i64 x.1), (3, x.2), (20, .slice A ns.length c), (21, .int .i64 ns.length)]) (fun x => [bytesAt x.2 (encTo d ns x.1), old E w0]) (fun x => x.1 ≤ ns.length) (fun x => ns.length - x.1) (0, _) (by omega) ⟨rfl, rfl, rfl, rfl, trivial⟩ (by simp only [encTo, List.take_zero, List.flatMap_nil, List.append_nil, List.nil_append]; exact Ent.cons Ent.drop) ?_
  rintro ⟨k, v3⟩ hk
  simp only at hk ⊢
  refine At.seq ?_
  refine At.region ?_
  refine L.pure rfl (ev_lss rfl rfl rfl) ?_
  refine L.nil ?_
  refine At.then ?_
  refine At.seq ?_
  refine At.condD rfl (fun c23 => ?_) (fun c23 => ?_)
  ·
    have hlt : k < ns.length := by omega
    obtain ⟨b, off, rfl, hbB, hcell⟩ := hN.cells (by omega)
    obtain ⟨nd, hnd⟩ : ∃ nd, ns[k]? = some nd := ⟨ns[k], by simp [hlt]⟩
    obtain ⟨A6, c6, hrow, hints⟩ := NodeAt.row (hcell k nd hnd)
    obtain ⟨hok, hed⟩ := ho nd (List.mem_of_getElem? hnd)
    have hnx := encTo_next (d := d) hnd
    have hl1 : (encTo d ns k).length + ((nums nd).flatMap encI).length + (FK.encN nd.after.length).length + (nd.after.flatMap encI).length ≤ 700 := by
      have := hlen (k + 1)
      rw [hnx, encNode_nums] at this
      simp only [List.length_append] at this
      have e : (fun k : Int => FK.encN k.toNat) = encI := rfl
      rw [e] at this
      omega
    have hal : nd.after.length ≤ 12 := by
      rcases hed.length_le (by omega) with h | h
      · omega
      · rw [h]; simp
    refine At.skip ?_
    refine At.then ?_
    refine At.seq ?_
    refine At.block ?_
    refine At.seq ?_
    refine At.region ?_
    refine L.pure rfl (ev_ixN (z := 7) rfl rfl rfl rfl (by omega)) ?_
    refine L.val rfl (ev_loadN (vs := nodeVals nd A6 c6) rfl rfl rfl rfl) (rowOld (.tail (.head)) h0 hrow) ?_
    refine L.op rfl (o_alloc (z := .agg #[.int .i64 0, .int .i64 0, .int .i64 0, .int .i64 0, .int .i64 0, .int .i64 0, .slice none 0 0]) rfl rfl fun b5 => ?_)
    refine L.op rfl (o_storeN rfl (m := 7) (vs := nodeVals nd A6 c6) rfl rfl rfl rfl (by simp [nodeVals, Value.oneCell']) (by simp [nodeVals, Value.cells]) ?_)
    simp only [Value.cells, setRow_all]
    refine L.nil ?_
    refine At.then ?_
    refine At.seq ?_
    refine At.seq ?_
    refine At.region ?_
    refine L.op rfl (o_call rfl rfl rfl hE (fields_does b5) (Ent.refl _) ?_)
    rintro v m ⟨rfl, rfl⟩
    refine At.app0 ?_
    refine L.mv rfl rfl ?_
    refine L.nil ?_
    refine At.then ?_
    refine At.block ?_
    refine At.loop (X := Nat × Value) (fun x => [(27, .int .i64 x.1), (3, x.2), (22, .int .i64 k), (20, .slice (some ⟨b, off, none⟩) ns.length c), (21, .int .i64 ns.length), (26, .agg (fieldPtrs b5 0)), (5, .pointer (some ⟨b5, 0, none⟩))]) (fun x => [bytesAt x.2 (encTo d ns k ++ ((nums nd).take x.1).flatMap encI), blk b5 _ (nodeVals nd A6 c6).toArray, old E w0]) (fun x => x.1 ≤ 6) (fun x => 6 - x.1) (0, _) (by omega) ⟨rfl, rfl, rfl, rfl, rfl, rfl, rfl, trivial⟩ (by simp only [List.take_zero, List.flatMap_nil, List.append_nil]; exact Ent.perm (List.Perm.swap _ _ _)) ?_
    rintro ⟨j, v3⟩ hj
    simp only at hj ⊢
    refine At.seq ?_
    refine At.region ?_
    refine L.pure rfl (ev_lss rfl rfl rfl) ?_
    refine L.nil ?_
    refine At.then ?_
    refine At.seq ?_
    refine At.condD rfl (fun c28 => ?_) (fun c28 => ?_)
    ·
      have hj6 : j < 6 := by omega
      obtain ⟨x, hx1, hx2⟩ := nums_at nd A6 c6 j hj6
      have hxr := nums_ok hok x (List.mem_of_getElem? hx1)
      obtain ⟨m, rfl⟩ : ∃ m : Nat, x = m := ⟨x.toNat, by omega⟩
      have hxt := take_more hx1
      have hft := flat_take encI (nums nd) j
      refine At.skip ?_
      refine At.then ?_
      refine At.seq ?_
      refine At.block ?_
      refine At.seq ?_
      refine At.region ?_
      refine L.pure rfl (ev_index rfl rfl rfl rfl rfl hj6 (ptrs_at b5 j hj6)) ?_
      refine L.as rfl rfl ?_
      refine L.nil ?_
      refine At.then ?_
      refine At.region ?_
      refine L.mv rfl rfl ?_
      refine L.mv rfl rfl ?_
      refine L.nc rfl rfl ?_
      refine L.ld rfl rfl rfl (by simpa using hx2) ?_
      refine L.pure rfl (ev_conv rfl rfl rfl (wu64 (by omega))) ?_
      refine L.op rfl (o_call rfl rfl rfl hE (number_does _ _ m (by omega) (by simp only [List.length_append]; omega)) (Ent.refl _) ?_)
      rintro v m rfl
      refine At.app1 ?_
      refine L.as rfl rfl ?_
      refine L.nil ?_
      refine At.inBlock (At.then ?_)
      refine At.region ?_
      refine L.pure rfl (ev_add rfl rfl (w64 (by omega))) ?_
      refine L.mv rfl rfl ?_
      refine L.nil ?_
      exact At.round (j + 1, _) (by simp; omega) (by simp; omega) ⟨rfl, rfl, rfl, rfl, rfl, rfl, rfl, trivial⟩ (by rw [hxt]; simp only [List.flatMap_append, List.flatMap_cons, List.flatMap_nil, List.append_nil, List.append_assoc]; exact Ent.refl _)
    ·
      obtain rfl : j = 6 := by omega
      refine At.exit ?_
      refine At.thenExit (At.roundExit (At.inBlockHit (At.then ?_)))
      refine At.seq ?_
      refine At.region ?_
      refine L.mv rfl rfl ?_
      refine L.fa 6 rfl rfl rfl ?_
      refine L.ld rfl rfl rfl rfl ?_
      refine L.pure rfl (ev_lenS rfl rfl) ?_
      refine L.pure rfl (ev_conv rfl rfl rfl (wu64 (by omega))) ?_
      refine L.op rfl (o_call rfl rfl rfl hE (number_does _ _ nd.after.length (by omega) (by have e : (nums nd).take 6 = nums nd := rfl; rw [e]; simp only [List.length_append]; omega)) (Ent.refl _) ?_)
      rintro v m rfl
      refine At.app1 ?_
      refine L.as rfl rfl ?_
      refine L.nil ?_
      refine At.then ?_
      refine At.seq ?_
      refine At.region ?_
      refine L.fa 6 rfl rfl rfl ?_
      refine L.ld rfl rfl rfl rfl ?_
      refine L.pure rfl (ev_lenS rfl rfl) ?_
      refine L.mv rfl rfl ?_
      refine L.nil ?_
      refine At.then ?_
      refine At.block ?_
      refine At.loop (X := Nat × Value) (fun x => [(46, .int .i64 x.1), (3, x.2), (22, .int .i64 k), (20, .slice (some ⟨b, off, none⟩) ns.length c), (21, .int .i64 ns.length), (44, .slice A6 nd.after.length c6), (45, .int .i64 nd.after.length)]) (fun x => [bytesAt x.2 (encTo d ns k ++ (nums nd).flatMap encI ++ FK.encN nd.after.length ++ (nd.after.take x.1).flatMap encI), old E w0]) (fun x => x.1 ≤ nd.after.length) (fun x => nd.after.length - x.1) (0, _) (by omega) ⟨rfl, rfl, rfl, rfl, rfl, rfl, rfl, trivial⟩ (by simp only [List.take_zero, List.flatMap_nil, List.append_nil]; exact Ent.cons Ent.drop) ?_
      rintro ⟨j, v3⟩ hj
      simp only at hj ⊢
      refine At.seq ?_
      refine At.region ?_
      refine L.pure rfl (ev_lss rfl rfl rfl) ?_
      refine L.nil ?_
      refine At.then ?_
      refine At.seq ?_
      refine At.condD rfl (fun c47 => ?_) (fun c47 => ?_)
      ·
        have hlt2 : j < nd.after.length := by omega
        obtain ⟨b6, off6, rfl, hb6, hc6⟩ := hints.cells (by omega)
        obtain ⟨y, hy⟩ : ∃ y, nd.after[j]? = some y := ⟨nd.after[j], by simp [hlt2]⟩
        have hyr := hed.bounds y (List.mem_of_getElem? hy)
        obtain ⟨m, rfl⟩ : ∃ m : Nat, y = m := ⟨y.toNat, by omega⟩
        have hxt := take_more hy
        have hft := flat_take encI nd.after j
        refine At.skip ?_
        refine At.then ?_
        refine At.seq ?_
        refine At.block ?_
        refine At.seq ?_
        refine At.region ?_
        refine L.pure rfl (ev_ixN (z := 1) rfl rfl rfl rfl hlt2) ?_
        refine L.val rfl (ev_load1 rfl rfl) (cellOld (.tail (.head)) h0 (by simpa using hc6 j _ hy)) ?_
        refine L.as rfl rfl ?_
        refine L.nil ?_
        refine At.then ?_
        refine At.region ?_
        refine L.mv rfl rfl ?_
        refine L.mv rfl rfl ?_
        refine L.pure rfl (ev_conv rfl rfl rfl (wu64 (by omega))) ?_
        refine L.op rfl (o_call rfl rfl rfl hE (number_does _ _ m (by omega) (by simp only [List.length_append]; omega)) (Ent.refl _) ?_)
        rintro v m rfl
        refine At.app1 ?_
        refine L.as rfl rfl ?_
        refine L.nil ?_
        refine At.inBlock (At.then ?_)
        refine At.region ?_
        refine L.pure rfl (ev_add rfl rfl (w64 (by omega))) ?_
        refine L.mv rfl rfl ?_
        refine L.nil ?_
        exact At.round (j + 1, _) (by simp; omega) (by simp; omega) ⟨rfl, rfl, rfl, rfl, rfl, rfl, rfl, trivial⟩ (by rw [hxt]; simp only [List.flatMap_append, List.flatMap_cons, List.flatMap_nil, List.append_nil, List.append_assoc]; exact Ent.refl _)
      ·
        obtain rfl : j = nd.after.length := by omega
        refine At.exit ?_
        refine At.thenExit (At.roundExit (At.inBlockHit (At.inBlock (At.then ?_))))
        refine At.region ?_
        refine L.pure rfl (ev_add rfl rfl (w64 (by omega))) ?_
        refine L.mv rfl rfl ?_
        refine L.nil ?_
        exact At.round (k + 1, _) (by simp; omega) (by simp; omega) ⟨rfl, rfl, rfl, rfl, trivial⟩ (by rw [hnx, encNode_nums]; have e : (fun k : Int => FK.encN k.toNat) = encI := rfl; rw [e, List.take_length]; simp only [List.append_assoc]; exact Ent.refl _)
  ·
    obtain rfl : k = ns.length := by omega
    refine At.exit ?_
    refine At.thenExit (At.roundExit (At.inBlockHit (At.then ?_)))
    refine At.seq ?_
    refine At.region ?_
    refine L.mv rfl rfl ?_
    refine L.as rfl rfl ?_
    refine L.nil ?_
    refine At.then ?_
    refine At.ret ?_
    exact At.ret1 [bytesAt v3 (FK.encFlow ⟨d, ns⟩)] rfl rfl rfl (by have e : encTo d ns ns.length = FK.encFlow ⟨d, ns⟩ := (by simp [encTo, FK.encFlow]); rw [e]; exact Ent.refl _)
end Go.Proofs.YtmeegfamopaljaaGreatDoor

namespace Go.Proofs.YtmeegfamopaljaaGreatDoor
open Go Go.RowKit Go.SL
variable {G : Env → Prop}
abbrev cutAt (e : Nat) : List PanicEntry := [{ v := .iface 237 (.int .i64 e), recovered := false }]
theorem intsAt_snoc (v : Value) (xs : List Int) (x : Int) : intsAt v (xs ++ [x]) = row 3 1 v (xs.length + 1) (intsV xs ++ [.int .i64 x]) := by simp [intsAt, intsV]
theorem many_zero {α : Type} (r : FK.Rd α) (l : List α) (q : Nat) : FK.many r 0 l q = .ok (l, q) := rfl
theorem many_succ {α : Type} {r : FK.Rd α} {n : Nat} {l : List α} {q q' : Nat} {x : α} (h : r q = .ok (x, q')) : FK.many r (n + 1) l q = FK.many r n (l ++ [x]) q' := by simp only [FK.many, h]
theorem many_err {α : Type} {r : FK.Rd α} {n : Nat} {l : List α} {q e : Nat} (h : r q = .error e) : FK.many r (n + 1) l q = .error e := by simp only [FK.many, h]
theorem rdList_ok {α : Type} {b : List UInt8} {r : FK.Rd α} {q n q' : Nat} (h : FK.rd b q = .ok (n, q')) : FK.rdList b r q = FK.many r n [] q' := by simp only [FK.rdList, h]
theorem rdList_err {α : Type} {b : List UInt8} {r : FK.Rd α} {q e : Nat} (h : FK.rd b q = .error e) : FK.rdList b r q = .error e := by simp only [FK.rdList, h]
theorem rdInt_ok {b : List UInt8} {q n q' : Nat} (h : FK.rd b q = .ok (n, q')) : FK.rdInt b q = .ok ((n : Int), q') := by simp only [FK.rdInt, h]
theorem rdInt_err {b : List UInt8} {q e : Nat} (h : FK.rd b q = .error e) : FK.rdInt b q = .error e := by simp only [FK.rdInt, h]
set_option maxRecDepth 10000 in
theorem list_int {p : HP} {A : Option Addr} {c : Nat} {bs : List UInt8} (hp : Reads p A bs) (hl : bs.length ≤ 1099511627776) (r q : Nat) (hq : q ≤ bs.length) :
    DoesX Tryz.prog G 199 [.pointer (some ⟨r, 0, none⟩), .func (.func 151) #[.pointer (some ⟨r, 0, none⟩)] #[]].toArray [blk r 240 #[.slice A bs.length c, .int .i64 q], p]
      (fun u m => ∃ (xs : List Int) (q' : Nat), FK.rdList bs (FK.rdInt bs) q = .ok (xs, q') ∧ q' ≤ bs.length ∧ (∀ x ∈ xs, 0 ≤ x ∧ x < 2097152) ∧ m = [intsAt u xs, blk r 240 #[.slice A bs.length c, .int .i64 q'], p])
      (fun x m => ∃ e q' : Nat, FK.rdList bs (FK.rdInt bs) q = .error e ∧ x = cutAt e ∧ m = [blk r 240 #[.slice A bs.length c, .int .i64 q'], p]) := by
  refine DoesX.body Tryz.func199 rfl rfl fun E fr hE => ?_
  refine At.app2 ?_
  refine At.seq ?_
  refine At.region ?_
  refine L.as rfl rfl ?_
  refine L.nil ?_
  refine At.then ?_
  refine At.seq ?_
  refine At.region ?_
  refine L.as rfl rfl ?_
  refine L.nil ?_
  refine At.then ?_
  refine At.seq ?_
  refine At.seq ?_
  refine At.region ?_
  refine L.mv rfl rfl ?_
  refine L.op rfl (o_callX rfl rfl rfl hE (reader_number hp hl r q hq) (Ent.refl _) ?_ ?_)
  ·
    rintro c m ⟨e, q', he, rfl, rfl⟩
    refine At.app2 ?_
    refine At.thenPanic (At.thenPanic ?_)
    exact At.panicX _ ⟨e, q', rdList_err he, rfl, rfl⟩ (Ent.refl _)
  rintro v m ⟨n, q1, hn, rfl, rfl⟩
  refine At.app2 ?_
  obtain ⟨hn1, hn2, hn3⟩ := FK.rd_lt hn
  refine L.as rfl rfl ?_
  refine L.nil ?_
  refine At.then ?_
  refine At.block ?_
  refine At.loop (X := Nat × List Int × Value × Nat) (fun x => [(6, .int .i64 x.1), (5, x.2.2.1), (0, .pointer (some ⟨r, 0, none⟩)), (1, .func (.func 151) #[.pointer (some ⟨r, 0, none⟩)] #[])]) (fun x => intsAt x.2.2.1 x.2.1 :: blk r 240 #[.slice A bs.length c, .int .i64 x.2.2.2] :: p :: fr) (fun x => FK.many (FK.rdInt bs) x.1 x.2.1 x.2.2.2 = FK.rdList bs (FK.rdInt bs) q ∧ x.2.2.2 ≤ bs.length ∧ (∀ y ∈ x.2.1, 0 ≤ y ∧ y < 2097152) ∧ x.2.1.length + x.1 ≤ 2097152) (fun x => x.1) (n, [], .slice none 0 0, q1) ⟨(rdList_ok hn).symm, hn3, by simp, by simp; omega⟩ ⟨rfl, rfl, rfl, rfl, trivial⟩ Ent.row0 ?_
  rintro ⟨k, xs, v5, q2⟩ ⟨hm, hq2, hb, hlen⟩
  simp only at hm hq2 hb hlen ⊢
  refine At.seq ?_
  refine At.seq ?_
  refine At.region ?_
  refine L.mv rfl rfl ?_
  refine L.pure rfl (ev_gtr rfl rfl rfl) ?_
  refine L.nil ?_
  refine At.then ?_
  refine At.condD rfl (fun c10 => ?_) (fun c10 => ?_)
  ·
    obtain ⟨k, rfl⟩ : ∃ j, k = j + 1 := ⟨k - 1, by omega⟩
    refine At.skip ?_
    refine At.then ?_
    refine At.seq ?_
    refine At.block ?_
    refine At.region ?_
    refine L.mv rfl rfl ?_
    refine L.mv rfl rfl ?_
    refine L.op rfl (o_callVX rfl rfl rfl rfl hE (reader_number (c := c) hp hl r q2 hq2) (Ent.sel2 (.tail (.head)) (.tail (.head))) ?_ ?_)
    ·
      rintro c m ⟨e, q', he, rfl, rfl⟩
      refine At.app2 ?_
      refine At.inBlockPanic (At.thenPanic (At.roundPanic (At.inBlockPanic (At.thenPanic ?_))))
      exact At.panicX _ ⟨e, q', by rw [← hm, many_err (rdInt_err he)], rfl, rfl⟩ (Ent.cons (Ent.cons Ent.drop))
    rintro v m ⟨y, q3, hy, rfl, rfl⟩
    refine At.app2 ?_
    obtain ⟨hy1, hy2, hy3⟩ := FK.rd_lt hy
    refine L.op rfl (o_slice1 (z := .int .i64 0) rfl rfl rfl rfl rfl rfl fun b16 => ?_)
    refine L.op rfl (o_append rfl rfl infoInt rfl (by omega) rfl rfl (.tail (.tail (.tail (.head)))) (news := [.int .i64 y]) rfl (fun h => by cases h) (srcIs (fun j u h => by simpa using h)) (by simp [Value.oneCell']) (by unfold maxLen; omega) (by omega) fun v' hv' => ?_)
    refine L.as rfl rfl ?_
    refine L.nil ?_
    refine At.inBlock (At.then ?_)
    refine At.region ?_
    refine L.mv rfl rfl ?_
    refine L.pure rfl (ev_sub (r := (k : Int)) rfl rfl (by rw [w64 (by omega)]; omega)) ?_
    refine L.as rfl rfl ?_
    refine L.nil ?_
    exact At.round (k, xs ++ [(y : Int)], v', q3) ⟨by rw [← hm, many_succ (rdInt_ok hy)], hy3, fun z hz => (by rcases List.mem_append.1 hz with h | h; exact hb z h; simp at h; omega), by simp only [List.length_append, List.length_cons, List.length_nil]; omega⟩ (by simp only; omega) ⟨rfl, rfl, rfl, rfl, trivial⟩ (by rw [intsAt_snoc]; exact Ent.cons Ent.drop)
  ·
    obtain rfl : k = 0 := by omega
    refine At.exit ?_
    refine At.thenExit (At.roundExit (At.inBlockHit (At.then ?_)))
    refine At.seq ?_
    refine At.region ?_
    refine L.mv rfl rfl ?_
    refine L.as rfl rfl ?_
    refine L.nil ?_
    refine At.then ?_
    refine At.ret ?_
    exact At.endsX (.inl rfl) (At.ret1 [_, _, _] rfl rfl ⟨xs, q2, by rw [← hm, many_zero], hq2, hb, rfl⟩ (Ent.refl _))
def nodeArr (xs : List Int) : Array Value := #[.int .i64 (xs.getD 0 0), .int .i64 (xs.getD 1 0), .int .i64 (xs.getD 2 0), .int .i64 (xs.getD 3 0), .int .i64 (xs.getD 4 0), .int .i64 (xs.getD 5 0), .slice none 0 0]
theorem nodeArr_set : ∀ (xs : List Int) (x : Int), xs.length < 6 → (nodeArr xs).setIfInBounds xs.length (.int .i64 x) = nodeArr (xs ++ [x])
  | [], _, _ => rfl | [_], _, _ => rfl | [_, _], _, _ => rfl | [_, _, _], _, _ => rfl | [_, _, _, _], _, _ => rfl | [_, _, _, _, _], _, _ => rfl
  | _ :: _ :: _ :: _ :: _ :: _ :: _, _, h => by simp at h; omega
theorem nodeArr_after (xs : List Int) (l : List Int) (v : Value) : (nodeArr xs).setIfInBounds 6 v = (nodeCells (FK.node7 xs l) v).toArray := rfl
theorem setRow_node (nd : FK.Node) (v : Value) : setRow (nodeCells nd v).toArray 0 (nodeCells nd v) = (nodeCells nd v).toArray := by simp [setRow, nodeCells]
theorem rdNums_ok {b : List UInt8} {k : Nat} {l : List Int} {q n q' : Nat} (h : FK.rd b q = .ok (n, q')) : FK.rdNums b (k + 1) l q = FK.rdNums b k (l ++ [(n : Int)]) q' := by simp only [FK.rdNums, rdInt_ok h, FK.andThen]
theorem rdNums_err {b : List UInt8} {k : Nat} {l : List Int} {q e : Nat} (h : FK.rd b q = .error e) : FK.rdNums b (k + 1) l q = .error e := by simp only [FK.rdNums, rdInt_err h, FK.andThen]
theorem rdNums_done {b : List UInt8} {l : List Int} {q q' : Nat} {xs : List Int} (h : FK.rdList b (FK.rdInt b) q = .ok (xs, q')) : FK.rdNums b 0 l q = .ok (FK.node7 l xs, q') := by simp only [FK.rdNums, h, FK.andThen]
theorem rdNums_bad {b : List UInt8} {l : List Int} {q e : Nat} (h : FK.rdList b (FK.rdInt b) q = .error e) : FK.rdNums b 0 l q = .error e := by simp only [FK.rdNums, h, FK.andThen]
def Small (nd : FK.Node) : Prop := (∀ x ∈ nums nd, 0 ≤ x ∧ x < 2097152) ∧ ∀ x ∈ nd.after, 0 ≤ x ∧ x < 2097152
theorem Small.i64 {nd : FK.Node} (h : Small nd) : (i64 nd.budget ∧ i64 nd.close ∧ i64 nd.beat ∧ i64 nd.base ∧ i64 nd.cap ∧ i64 nd.jitter) ∧ ∀ x ∈ nd.after, i64 x := by
  have h0 := h.1
  simp only [nums, List.mem_cons, List.not_mem_nil, or_false, forall_eq_or_imp, forall_eq] at h0
  obtain ⟨a1, a2, a3, a4, a5, a6⟩ := h0
  unfold Go.Proofs.YtmeegfamopaljaaGreatDoor.i64
  exact ⟨⟨by omega, by omega, by omega, by omega, by omega, by omega⟩, fun x hx => by have := h.2 x hx; omega⟩
theorem getD_small {xs : List Int} (h : ∀ x ∈ xs, 0 ≤ x ∧ x < 2097152) (i : Nat) : 0 ≤ xs.getD i 0 ∧ xs.getD i 0 < 2097152 := by
  rw [List.getD_eq_getElem?_getD]
  cases hx : xs[i]? with
  | none => simp
  | some x => simpa using h x (List.mem_of_getElem? hx)
set_option maxRecDepth 10000 in
theorem reader_node {p : HP} {A : Option Addr} {c : Nat} {bs : List UInt8} (hp : Reads p A bs) (hl : bs.length ≤ 1099511627776) (r q : Nat) (hq : q ≤ bs.length) :
    DoesX Tryz.prog G 153 [.pointer (some ⟨r, 0, none⟩)].toArray [blk r 240 #[.slice A bs.length c, .int .i64 q], p]
      (fun u m => ∃ (nd : FK.Node) (v : Value) (q' : Nat), FK.rdNode bs q = .ok (nd, q') ∧ q' ≤ bs.length ∧ Small nd ∧ u = .agg (nodeCells nd v).toArray ∧ m = [intsAt v nd.after, blk r 240 #[.slice A bs.length c, .int .i64 q'], p])
      (fun x m => ∃ e q' : Nat, FK.rdNode bs q = .error e ∧ x = cutAt e ∧ m = [blk r 240 #[.slice A bs.length c, .int .i64 q'], p]) := by
  refine DoesX.body Tryz.func153 rfl rfl fun E fr hE => ?_
  refine At.app2 ?_
  refine At.seq ?_
  refine At.region ?_
  refine L.op rfl (o_alloc (z := .agg #[.int .i64 0, .int .i64 0, .int .i64 0, .int .i64 0, .int .i64 0, .int .i64 0, .slice none 0 0]) rfl rfl fun b2 => ?_)
  refine L.nil ?_
  refine At.then ?_
  refine At.seq ?_
  refine At.seq ?_
  refine At.region ?_
  refine L.op rfl (o_call rfl rfl rfl hE (fields_does b2) (Ent.refl _) ?_)
  rintro v m ⟨rfl, rfl⟩
  refine At.app0 ?_
  refine L.mv rfl rfl ?_
  refine L.nil ?_
  refine At.then ?_
  refine At.block ?_
  refine At.loop (X := List Int × Nat) (fun x => [(6, .int .i64 (x.1.length : Nat)), (5, .agg (fieldPtrs b2 0)), (2, .pointer (some ⟨b2, 0, none⟩)), (0, .pointer (some ⟨r, 0, none⟩))]) (fun x => blk b2 46 (nodeArr x.1) :: blk r 240 #[.slice A bs.length c, .int .i64 x.2] :: p :: fr) (fun x => x.1.length ≤ 6 ∧ FK.rdNums bs (6 - x.1.length) x.1 x.2 = FK.rdNode bs q ∧ x.2 ≤ bs.length ∧ ∀ y ∈ x.1, 0 ≤ y ∧ y < 2097152) (fun x => 6 - x.1.length) ([], q) ⟨by simp, (FK.rdNode_nums bs q).symm, hq, by simp⟩ ⟨rfl, rfl, rfl, rfl, trivial⟩ (Ent.refl _) ?_
  rintro ⟨xs, q1⟩ ⟨hx6, hx, hq1, hb⟩
  simp only at hx6 hx hq1 hb ⊢
  refine At.seq ?_
  refine At.region ?_
  refine L.pure rfl (ev_lss rfl rfl rfl) ?_
  refine L.nil ?_
  refine At.then ?_
  refine At.seq ?_
  refine At.condD rfl (fun c7 => ?_) (fun c7 => ?_)
  ·
    have hj6 : xs.length < 6 := by omega
    have hsucc : 6 - xs.length = (5 - xs.length) + 1 := by omega
    refine At.skip ?_
    refine At.then ?_
    refine At.seq ?_
    refine At.block ?_
    refine At.seq ?_
    refine At.region ?_
    refine L.pure rfl (ev_index rfl rfl rfl rfl rfl hj6 (ptrs_at b2 xs.length hj6)) ?_
    refine L.as rfl rfl ?_
    refine L.nil ?_
    refine At.then ?_
    refine At.region ?_
    refine L.mv rfl rfl ?_
    refine L.mv rfl rfl ?_
    refine L.op rfl (o_callX rfl rfl rfl hE (reader_number (c := c) hp hl r q1 hq1) (Ent.sel2 (.tail (.head)) (.tail (.head))) ?_ ?_)
    ·
      rintro c m ⟨e, q', he, rfl, rfl⟩
      refine At.app2 ?_
      refine At.inBlockPanic (At.thenPanic (At.roundPanic (At.inBlockPanic (At.thenPanic ?_))))
      exact At.panicX _ ⟨e, q', by rw [← hx, hsucc, rdNums_err he], rfl, rfl⟩ (Ent.cons (Ent.cons Ent.drop))
    rintro v m ⟨y, q3, hy, rfl, rfl⟩
    refine At.app2 ?_
    obtain ⟨hy1, hy2, hy3⟩ := FK.rd_lt hy
    refine L.nc rfl rfl ?_
    refine L.st rfl rfl rfl rfl (by simp [nodeArr]; omega) ?_
    rw [nodeArr_set xs y hj6]
    refine L.nil ?_
    refine At.inBlock (At.then ?_)
    refine At.region ?_
    refine L.pure rfl (ev_add (r := ((xs ++ [(y : Int)]).length : Nat)) rfl rfl (by rw [w64 (by omega)]; simp)) ?_
    refine L.mv rfl rfl ?_
    refine L.nil ?_
    exact At.round (xs ++ [(y : Int)], q3) ⟨by simp only [List.length_append, List.length_cons, List.length_nil]; omega, by rw [← hx, hsucc, rdNums_ok hy]; simp only [List.length_append, List.length_cons, List.length_nil]; rw [show 6 - (xs.length + (0 + 1)) = 5 - xs.length by omega], hy3, fun z hz => (by rcases List.mem_append.1 hz with h | h; exact hb z h; simp at h; omega)⟩ (by simp only [List.length_append, List.length_cons, List.length_nil]; omega) ⟨rfl, rfl, rfl, rfl, trivial⟩ (Ent.refl _)
  ·
    have h6 : xs.length = 6 := by omega
    rw [h6] at hx
    refine At.exit ?_
    refine At.thenExit (At.roundExit (At.inBlockHit (At.then ?_)))
    refine At.seq ?_
    refine At.region ?_
    refine L.mv rfl rfl ?_
    refine L.mv rfl rfl ?_
    refine L.pure rfl (ev_func rfl rfl) ?_
    refine L.op rfl (o_callX rfl rfl rfl hE (list_int (c := c) hp hl r q1 hq1) (Ent.sel2 (.tail (.head)) (.tail (.head))) ?_ ?_)
    ·
      rintro c m ⟨e, q', he, rfl, rfl⟩
      refine At.app2 ?_
      refine At.thenPanic ?_
      exact At.panicX _ ⟨e, q', by rw [← hx, rdNums_bad he], rfl, rfl⟩ (Ent.cons (Ent.cons Ent.drop))
    rintro v m ⟨l, q3, hy, hq3, hlb, rfl⟩
    refine At.app3 ?_
    refine At.formRow .head ?_
    rintro A6 c6 rfl _ _ _ _ _
    refine L.fa 6 rfl rfl rfl ?_
    refine L.st rfl rfl rfl rfl (by simp [nodeArr]) ?_
    rw [nodeArr_after xs l]
    refine L.nil ?_
    refine At.then ?_
    refine At.seq ?_
    refine At.region ?_
    refine L.val rfl (ev_loadN (vs := nodeCells (FK.node7 xs l) (.slice A6 l.length c6)) rfl rfl rfl rfl) (rowAll rfl) ?_
    refine L.op rfl (o_storeN rfl (m := 7) (vs := nodeCells (FK.node7 xs l) (.slice A6 l.length c6)) rfl rfl rfl rfl (by simp [nodeCells, Value.oneCell']) (by simp [nodeCells]) ?_)
    rw [setRow_node]
    refine L.nil ?_
    refine At.then ?_
    refine At.ret ?_
    exact At.endsX (.inl rfl) (At.res1 [_, _, _] rfl (Res.cellN (vs := nodeCells (FK.node7 xs l) (.slice A6 l.length c6)) rfl rfl rfl rfl (rowAll rfl)) ⟨FK.node7 xs l, _, q3, by rw [← hx]; exact rdNums_done hy, hq3, ⟨fun x hx => by simp only [nums, FK.node7, List.mem_cons, List.not_mem_nil, or_false] at hx; rcases hx with rfl | rfl | rfl | rfl | rfl | rfl <;> exact getD_small hb _, hlb⟩, rfl, rfl⟩ Ent.drop)
end Go.Proofs.YtmeegfamopaljaaGreatDoor

namespace Go.Proofs.YtmeegfamopaljaaGreatDoor
open Go Go.RowKit Go.SL
variable {G : Env → Prop}
theorem dropApp : ∀ (a : List HP) {b : List HP}, Ent (a ++ b) b
  | [], _ => Ent.refl _
  | _ :: a, _ => Ent.drop.trans (dropApp a)
theorem fill_node (nd : FK.Node) (v : Value) : Instr.fill (fun i => some (i * 7, 7)) (Array.map (fun x => (Value.agg #[.int .i64 0, .int .i64 0, .int .i64 0, .int .i64 0, .int .i64 0, .int .i64 0, .slice none 0 0]).cells[x % (Value.agg #[.int .i64 0, .int .i64 0, .int .i64 0, .int .i64 0, .int .i64 0, .int .i64 0, .slice none 0 0]).cells.size]!) (Array.range (1 * 7)))
    ((List.map (fun x => x.1) [((0 : Nat), Operand.tmp 15)]).zip [Value.agg (nodeCells nd v).toArray]) = some (nodeCells nd v).toArray := by
  have e1 : Array.range (1 * 7) = #[0, 1, 2, 3, 4, 5, 6] := rfl
  rw [e1]
  simp [Instr.fill, nodeCells, Value.cells]
theorem aftsAt_snoc {vs : List Value} {ns : List FK.Node} {v : Value} {nd : FK.Node} (h : vs.length = ns.length) : aftsAt (vs ++ [v]) (ns ++ [nd]) = aftsAt vs ns ++ [intsAt v nd.after] := by
  unfold aftsAt
  rw [List.zip_append h]
  simp
theorem nodes_snoc {v' : Value} {vs : List Value} {ns : List FK.Node} {u : Value} {nd : FK.Node} {fr : List HP} {x y z : HP} (h : vs.length = ns.length) :
    Ent (row 46 7 v' (ns.length + 1) (nodesV ns vs ++ nodeCells nd u) :: x :: intsAt u nd.after :: y :: z :: (aftsAt vs ns ++ fr)) (y :: z :: row 46 7 v' (ns ++ [nd]).length (nodesV (ns ++ [nd]) (vs ++ [u])) :: (aftsAt (vs ++ [u]) (ns ++ [nd]) ++ fr)) := by
  rw [aftsAt_snoc h, nodesV_snoc ns vs nd u h, show (ns ++ [nd]).length = ns.length + 1 by simp]
  refine (Ent.cons Ent.drop).trans (Ent.perm ?_)
  have h1 : (([row 46 7 v' (ns.length + 1) (nodesV ns vs ++ nodeCells nd u), intsAt u nd.after] ++ [y, z]) ++ (aftsAt vs ns ++ fr)).Perm (([y, z] ++ [row 46 7 v' (ns.length + 1) (nodesV ns vs ++ nodeCells nd u), intsAt u nd.after]) ++ (aftsAt vs ns ++ fr)) := List.perm_append_comm.append_right _
  refine h1.trans (List.Perm.cons _ (List.Perm.cons _ (List.Perm.cons _ ?_)))
  have h2 : (intsAt u nd.after :: (aftsAt vs ns ++ fr)).Perm (aftsAt vs ns ++ intsAt u nd.after :: fr) := List.perm_middle.symm
  simpa using h2
theorem nodes_close {v : Value} {vs : List Value} {ns : List FK.Node} {fr : List HP} {y z : HP} (h : vs.length = ns.length) :
    Ent (y :: z :: row 46 7 v ns.length (nodesV ns vs) :: (aftsAt vs ns ++ fr)) (nodesOwn v ns :: y :: z :: fr) := by
  refine (Ent.perm ?_).trans (nodesOwn.ent h)
  have h1 : (([y, z] ++ (row 46 7 v ns.length (nodesV ns vs) :: aftsAt vs ns)) ++ fr).Perm (((row 46 7 v ns.length (nodesV ns vs) :: aftsAt vs ns) ++ [y, z]) ++ fr) := List.perm_append_comm.append_right _
  simpa using h1
set_option maxRecDepth 10000 in
theorem list_node {p : HP} {A : Option Addr} {c : Nat} {bs : List UInt8} (hp : Reads p A bs) (hl : bs.length ≤ 1099511627776) (r q : Nat) (hq : q ≤ bs.length) :
    DoesX Tryz.prog G 152 [.pointer (some ⟨r, 0, none⟩), .func (.func 153) #[.pointer (some ⟨r, 0, none⟩)] #[]].toArray [blk r 240 #[.slice A bs.length c, .int .i64 q], p]
      (fun u m => ∃ (ns : List FK.Node) (q' : Nat), FK.rdList bs (FK.rdNode bs) q = .ok (ns, q') ∧ q' ≤ bs.length ∧ (∀ x ∈ ns, Small x) ∧ (∃ A' c', u = .slice A' ns.length c') ∧ m = [nodesOwn u ns, blk r 240 #[.slice A bs.length c, .int .i64 q'], p])
      (fun x m => ∃ e q' : Nat, FK.rdList bs (FK.rdNode bs) q = .error e ∧ x = cutAt e ∧ m = [blk r 240 #[.slice A bs.length c, .int .i64 q'], p]) := by
  refine DoesX.body Tryz.func152 rfl rfl fun E fr hE => ?_
  refine At.app2 ?_
  refine At.seq ?_
  refine At.region ?_
  refine L.as rfl rfl ?_
  refine L.nil ?_
  refine At.then ?_
  refine At.seq ?_
  refine At.region ?_
  refine L.as rfl rfl ?_
  refine L.nil ?_
  refine At.then ?_
  refine At.seq ?_
  refine At.seq ?_
  refine At.region ?_
  refine L.mv rfl rfl ?_
  refine L.op rfl (o_callX rfl rfl rfl hE (reader_number hp hl r q hq) (Ent.refl _) ?_ ?_)
  ·
    rintro c m ⟨e, q', he, rfl, rfl⟩
    refine At.app2 ?_
    refine At.thenPanic (At.thenPanic ?_)
    exact At.panicX _ ⟨e, q', rdList_err he, rfl, rfl⟩ (Ent.refl _)
  rintro v m ⟨n, q1, hn, rfl, rfl⟩
  refine At.app2 ?_
  obtain ⟨hn1, hn2, hn3⟩ := FK.rd_lt hn
  refine L.as rfl rfl ?_
  refine L.nil ?_
  refine At.then ?_
  refine At.block ?_
  refine At.loop (X := Nat × List FK.Node × List Value × Value × Nat) (fun x => [(6, .int .i64 x.1), (5, x.2.2.2.1), (0, .pointer (some ⟨r, 0, none⟩)), (1, .func (.func 153) #[.pointer (some ⟨r, 0, none⟩)] #[])]) (fun x => blk r 240 #[.slice A bs.length c, .int .i64 x.2.2.2.2] :: p :: row 46 7 x.2.2.2.1 x.2.1.length (nodesV x.2.1 x.2.2.1) :: (aftsAt x.2.2.1 x.2.1 ++ fr)) (fun x => FK.many (FK.rdNode bs) x.1 x.2.1 x.2.2.2.2 = FK.rdList bs (FK.rdNode bs) q ∧ x.2.2.2.2 ≤ bs.length ∧ (∀ y ∈ x.2.1, Small y) ∧ x.2.1.length + x.1 ≤ 2097152 ∧ x.2.2.1.length = x.2.1.length) (fun x => x.1) (n, [], [], .slice none 0 0, q1) ⟨(rdList_ok hn).symm, hn3, by simp, by simp; omega, rfl⟩ ⟨rfl, rfl, rfl, rfl, trivial⟩ (Ent.cons (Ent.cons Ent.row0)) ?_
  rintro ⟨k, ns, vs, v5, q2⟩ ⟨hm, hq2, hb, hlen, hvs⟩
  simp only at hm hq2 hb hlen hvs ⊢
  refine At.seq ?_
  refine At.seq ?_
  refine At.region ?_
  refine L.mv rfl rfl ?_
  refine L.pure rfl (ev_gtr rfl rfl rfl) ?_
  refine L.nil ?_
  refine At.then ?_
  refine At.condD rfl (fun c10 => ?_) (fun c10 => ?_)
  ·
    obtain ⟨k, rfl⟩ : ∃ j, k = j + 1 := ⟨k - 1, by omega⟩
    refine At.skip ?_
    refine At.then ?_
    refine At.seq ?_
    refine At.block ?_
    refine At.region ?_
    refine L.mv rfl rfl ?_
    refine L.mv rfl rfl ?_
    refine L.op rfl (o_callVX rfl rfl rfl rfl hE (reader_node (c := c) hp hl r q2 hq2) (Ent.refl _) ?_ ?_)
    ·
      rintro c m ⟨e, q', he, rfl, rfl⟩
      refine At.app2 ?_
      refine At.inBlockPanic (At.thenPanic (At.roundPanic (At.inBlockPanic (At.thenPanic ?_))))
      exact At.panicX [_, _] ⟨e, q', by rw [← hm, many_err he], rfl, rfl⟩ (Ent.cons (Ent.cons (Ent.drop.trans (dropApp _))))
    rintro v m ⟨nd, u6, q3, hy, hq3, hsm, rfl, rfl⟩
    refine At.app3 ?_
    refine At.formRow .head ?_
    rintro A6 c6 rfl _ _ _ _ _
    refine L.op rfl (o_slices (m := 1) (z := .agg #[.int .i64 0, .int .i64 0, .int .i64 0, .int .i64 0, .int .i64 0, .int .i64 0, .slice none 0 0]) (size := 7) (ps := [(0, .tmp 15)]) (vs := [.agg (nodeCells nd (.slice A6 nd.after.length c6)).toArray]) (cs := (nodeCells nd (.slice A6 nd.after.length c6)).toArray) rfl rfl rfl rfl (by omega) (by omega) rfl (fill_node _ _) fun b16 => ?_)
    refine L.op rfl (o_append rfl rfl infoNode rfl (by omega) rfl rfl (.tail (.tail (.tail (.tail (.head))))) (news := nodeCells nd (.slice A6 nd.after.length c6)) rfl (fun h => by cases h) (srcIs (fun j u h => by simpa using h)) (by simp [nodeCells, Value.oneCell']) (by unfold maxLen; omega) (by omega) fun v' hv' => ?_)
    refine L.as rfl rfl ?_
    refine L.nil ?_
    refine At.inBlock (At.then ?_)
    refine At.region ?_
    refine L.mv rfl rfl ?_
    refine L.pure rfl (ev_sub (r := (k : Int)) rfl rfl (by rw [w64 (by omega)]; omega)) ?_
    refine L.as rfl rfl ?_
    refine L.nil ?_
    exact At.round (k, ns ++ [nd], vs ++ [.slice A6 nd.after.length c6], v', q3) ⟨by rw [← hm, many_succ hy], hq3, fun z hz => (by rcases List.mem_append.1 hz with h | h; exact hb z h; simp at h; rw [h]; exact hsm), by simp only [List.length_append, List.length_cons, List.length_nil]; omega, by simp [hvs]⟩ (by simp only; omega) ⟨rfl, rfl, rfl, rfl, trivial⟩ (nodes_snoc hvs)
  ·
    obtain rfl : k = 0 := by omega
    refine At.formRow (.tail (.tail (.head))) ?_
    rintro A6 c6 rfl _ _ _ _ _
    refine At.exit ?_
    refine At.thenExit (At.roundExit (At.inBlockHit (At.then ?_)))
    refine At.seq ?_
    refine At.region ?_
    refine L.mv rfl rfl ?_
    refine L.as rfl rfl ?_
    refine L.nil ?_
    refine At.then ?_
    refine At.ret ?_
    exact At.endsX (.inl rfl) (At.ret1 [_, _, _] rfl rfl ⟨ns, q2, by rw [← hm, many_zero], hq2, hb, ⟨_, _, rfl⟩, rfl⟩ (nodes_close hvs))
end Go.Proofs.YtmeegfamopaljaaGreatDoor
