/- The walks of the document's reader: number, next. -/
import Derived.Test.YtagkobkmaigfcaaDoorRead1
namespace Go.Proofs.YtagkobkmaigfcaaDoor
open Go Go.RowKit Go.SL
variable {G : Env → Prop}

theorem rem128 (x : Nat) : ((x : Int)).tmod 128 = ((x % 128 : Nat) : Int) := by
  rw [Int.tmod_eq_emod_of_nonneg (by omega)]
  omega

set_option maxRecDepth 10000 in
theorem ref_number {p : HP} {A : Option Addr} {c : Nat} {bs : List UInt8} (hp : Reads p A bs) (hl : bs.length ≤ 1099511627776) (r q : Nat) (hq : q ≤ bs.length) :
    Does Tryd.prog G 82 [.pointer (some ⟨r, 0, none⟩)].toArray [blk r 105 #[.slice A bs.length c, .int .i64 q, .bool false], p]
      (fun u m => (∃ n q' : Nat, FK.rd bs q = .ok (n, q') ∧ u = .int .i64 n ∧ m = [blk r 105 #[.slice A bs.length c, .int .i64 q', .bool false], p]) ∨
        (∃ (e q' : Nat) (k : Int), FK.rd bs q = .error e ∧ e = q ∧ u = .int .i64 k ∧ m = [blk r 105 #[.slice A bs.length c, .int .i64 q', .bool true], p])) := by
  refine Does.body Tryd.func82 rfl rfl fun E fr hE => ?_
  refine At.app2 ?_
  refine At.seq ?_
  refine At.region ?_
  refine L.as rfl rfl ?_
  refine L.nil ?_
  refine At.then ?_
  refine At.seq ?_
  refine At.region ?_
  refine L.as rfl rfl ?_
  refine L.nil ?_
  refine At.then ?_
  refine At.seq ?_
  refine At.region ?_
  refine L.as rfl rfl ?_
  refine L.nil ?_
  refine At.then ?_
  refine At.seq ?_
  refine At.seq ?_
  refine At.region ?_
  refine L.as rfl rfl ?_
  refine L.nil ?_
  refine At.then ?_
  refine At.block ?_
  refine At.loop (X := Nat × Nat) (fun x => [(5, .int .i64 x.1), (3, .int .i64 x.2), (4, .int .i64 (128 ^ x.1 : Nat)), (0, .pointer (some ⟨r, 0, none⟩))]) (fun x => blk r 105 #[.slice A bs.length c, .int .i64 (q + x.1 : Nat), .bool false] :: p :: fr) (fun x => x.1 ≤ 3 ∧ x.2 < 128 ^ x.1 ∧ FK.rdGo bs q (3 - x.1) x.1 x.2 = FK.rd bs q ∧ q + x.1 ≤ bs.length) (fun x => 3 - x.1) (0, 0) ⟨by omega, by simp, (FK.rd_go bs q).symm, hq⟩ ⟨rfl, rfl, rfl, rfl, trivial⟩ (Ent.refl _) ?_
  rintro ⟨i, n⟩ ⟨hi, hn, hgo, hqi⟩
  simp only at hi hn hgo hqi ⊢
  refine At.seq ?_
  refine At.seq ?_
  refine At.region ?_
  refine L.mv rfl rfl ?_
  refine L.pure rfl (ev_lss rfl rfl rfl) ?_
  refine L.nil ?_
  refine At.then ?_
  refine At.condD rfl (fun c8 => ?_) (fun c8 => ?_)
  ·
    have hi2 : i ≤ 2 := by omega
    refine At.skip ?_
    refine At.then ?_
    refine At.seq ?_
    refine At.block ?_
    refine At.seq ?_
    refine At.seq ?_
    refine Dr.start rfl ?_
    refine Dr.p 0 rfl rfl (by kernel_rfl) (ev_move rfl) ?_
    refine Dr.p 1 rfl rfl (by kernel_rfl) (ev_nil rfl) ?_
    refine Dr.p 2 rfl rfl (by kernel_rfl) (ev_field (off := 1) rfl rfl) ?_
    refine Dr.ld 3 rfl rfl (by kernel_rfl) (ev_load1 rfl rfl) (cellIs rfl) ?_
    refine Dr.p 4 rfl rfl (by kernel_rfl) (ev_move rfl) ?_
    refine Dr.p 5 rfl rfl (by kernel_rfl) (ev_nil rfl) ?_
    refine Dr.p 6 rfl rfl (by kernel_rfl) (ev_field (off := 0) rfl rfl) ?_
    refine Dr.ld 7 rfl rfl (by kernel_rfl) (ev_load1 rfl rfl) (cellIs rfl) ?_
    refine Dr.p 8 rfl rfl (by kernel_rfl) (ev_lenS rfl rfl) ?_
    refine Dr.p 9 rfl rfl (by kernel_rfl) (ev_geq rfl rfl rfl) ?_
    refine Dr.done (by kernel_rfl) ?_
    refine At.then ?_
    refine At.condD rfl (fun c20 => ?_) (fun c20 => ?_)
    ·
      refine At.seq ?_
      refine At.region ?_
      refine L.mv rfl rfl ?_
      refine L.nc rfl rfl ?_
      refine L.fa 2 rfl rfl rfl ?_
      refine L.st rfl rfl rfl rfl (by first | decide | simp | (simp; omega)) ?_
      refine L.nil ?_
      refine At.then ?_
      refine At.seq ?_
      refine At.region ?_
      refine L.as rfl rfl ?_
      refine L.nil ?_
      refine At.then ?_
      refine At.ret ?_
      refine At.thenRet (At.inBlockRet (At.thenRet (At.roundRet (At.inBlockRet (At.thenRet ?_)))))
      exact At.ret1 _ rfl rfl (.inr ⟨q, q + i, 0, by rw [← hgo, show 3 - i = (2 - i) + 1 by omega, FK.rdGo, List.getElem?_eq_none (by omega)], rfl, rfl, rfl⟩) (Ent.refl _)
    ·
      have hlt : q + i < bs.length := by omega
      obtain ⟨b, o, hA⟩ := hp.form (by intro h; simp [h] at hlt)
      obtain ⟨x, hx⟩ : ∃ x, bs[q + i]? = some x := ⟨bs[q + i], by simp [hlt]⟩
      have hxl := x.toNat_lt
      have hpow : 128 ^ i ≤ 16384 := Nat.pow_le_pow_right (by omega) (by omega : i ≤ 2)
      have hmul : x.toNat % 128 * 128 ^ i ≤ 127 * 16384 := Nat.mul_le_mul (by omega) hpow
      have hstep := hgo
      rw [show 3 - i = (2 - i) + 1 by omega, FK.rdGo, hx] at hstep
      simp only at hstep
      refine At.skip ?_
      refine At.then ?_
      refine At.seq ?_
      refine Dr.start rfl ?_
      refine Dr.p 0 rfl rfl (by kernel_rfl) (ev_move rfl) ?_
      refine Dr.p 1 rfl rfl (by kernel_rfl) (ev_nil rfl) ?_
      refine Dr.p 2 rfl rfl (by kernel_rfl) (ev_field (off := 0) rfl rfl) ?_
      refine Dr.ld 3 rfl rfl (by kernel_rfl) (ev_load1 rfl rfl) (cellIs rfl) ?_
      refine Dr.p 4 rfl rfl (by kernel_rfl) (ev_move rfl) ?_
      refine Dr.p 5 rfl rfl (by kernel_rfl) (ev_nil rfl) ?_
      refine Dr.p 6 rfl rfl (by kernel_rfl) (ev_field (off := 1) rfl rfl) ?_
      refine Dr.ld 7 rfl rfl (by kernel_rfl) (ev_load1 rfl rfl) (cellIs rfl) ?_
      refine Dr.p 8 rfl rfl (by kernel_rfl) (ev_ixN (z := 1) rfl rfl (by rw [hA]; rfl) rfl hlt) ?_
      refine Dr.ld 9 rfl rfl (by kernel_rfl) (ev_load1 rfl rfl) (hp.at (.tail (.head)) hA (by simpa using hx)) ?_
      refine Dr.p 10 rfl rfl (by kernel_rfl) (ev_conv rfl rfl rfl (w64 (by omega))) ?_
      refine Dr.p 11 rfl rfl (by kernel_rfl) (ev_assign rfl) ?_
      refine Dr.done (by kernel_rfl) ?_
      refine At.then ?_
      refine At.seq ?_
      refine At.region ?_
      refine L.mv rfl rfl ?_
      refine L.nc rfl rfl ?_
      refine L.fa 1 rfl rfl rfl ?_
      refine L.ld rfl rfl rfl rfl ?_
      refine L.pure rfl (ev_add rfl rfl (w64 (by omega))) ?_
      refine L.nc rfl rfl ?_
      refine L.fa 1 rfl rfl rfl ?_
      refine L.st rfl rfl rfl rfl (by first | decide | simp | (simp; omega)) ?_
      refine L.nil ?_
      refine At.then ?_
      refine At.seq ?_
      refine At.region ?_
      refine L.mv rfl rfl ?_
      refine L.mv rfl rfl ?_
      refine L.pure rfl (ev_rem rfl rfl (by omega) (rem128 _)) ?_
      refine L.mv rfl rfl ?_
      refine L.pure rfl (ev_mul (r := ((x.toNat % 128 * 128 ^ i : Nat) : Int)) rfl rfl (by rw [← Int.natCast_mul, w64 (by omega)])) ?_
      refine L.pure rfl (ev_add (r := ((n + x.toNat % 128 * 128 ^ i : Nat) : Int)) rfl rfl (by rw [← Int.natCast_add, w64 (by omega)])) ?_
      refine L.as rfl rfl ?_
      refine L.nil ?_
      refine At.then ?_
      refine At.seq ?_
      refine At.region ?_
      refine L.mv rfl rfl ?_
      refine L.pure rfl (ev_mul (r := ((128 ^ (i + 1) : Nat) : Int)) rfl rfl (by rw [Nat.pow_succ, w64 (by omega)]; omega)) ?_
      refine L.as rfl rfl ?_
      refine L.nil ?_
      refine At.then ?_
      refine At.seq ?_
      refine At.region ?_
      refine L.mv rfl rfl ?_
      refine L.pure rfl (ev_lss rfl rfl rfl) ?_
      refine L.nil ?_
      refine At.then ?_
      refine At.condD rfl (fun c51 => ?_) (fun c51 => ?_)
      ·
        rw [if_pos (by omega)] at hstep
        have hm : x.toNat % 128 = x.toNat := Nat.mod_eq_of_lt (by omega)
        refine At.seq ?_
        refine At.seq ?_
        refine At.region ?_
        refine L.mv rfl rfl ?_
        refine L.bool rfl (ev_eql rfl rfl rfl) (fun _ _ => trivial) fun c53 e53 => ?_
        refine L.mv rfl rfl ?_
        refine L.abs c53 (by rfl) ?_
        refine L.g rfl rfl (fun _ => rfl) (ev_move rfl) (fun _ _ => trivial) ?_
        refine L.abs c53 (by rfl) ?_
        refine L.g rfl rfl (fun _ => rfl) (ev_gtr rfl rfl rfl) (fun _ _ => trivial) ?_
        refine L.bool rfl (ev_pickAnd rfl rfl rfl) (fun _ _ => trivial) fun c57 e57 => ?_
        refine L.nil ?_
        refine At.then ?_
        refine At.cond rfl (fun c57 => ?_) (fun c57 => ?_)
        ·
          simp only [e57, e53, Bool.and_eq_true, decide_eq_true_eq] at c57
          refine At.region ?_
          refine L.mv rfl rfl ?_
          refine L.nc rfl rfl ?_
          refine L.fa 2 rfl rfl rfl ?_
          refine L.st rfl rfl rfl rfl (by first | decide | simp | (simp; omega)) ?_
          refine L.nil ?_
          refine At.then ?_
          refine At.seq ?_
          refine At.region ?_
          refine L.mv rfl rfl ?_
          refine L.as rfl rfl ?_
          refine L.nil ?_
          refine At.then ?_
          refine At.ret ?_
          refine At.inBlockRet (At.thenRet (At.roundRet (At.inBlockRet (At.thenRet ?_))))
          exact At.ret1 _ rfl rfl (.inr ⟨q, q + i + 1, _, by rw [← hstep, if_pos (by omega)], rfl, rfl, rfl⟩) (Ent.refl _)
        ·
          rw [if_neg (by intro h; rw [e57, e53] at c57; simp at c57; omega)] at hstep
          refine At.skip ?_
          refine At.then ?_
          refine At.seq ?_
          refine At.region ?_
          refine L.mv rfl rfl ?_
          refine L.as rfl rfl ?_
          refine L.nil ?_
          refine At.then ?_
          refine At.ret ?_
          refine At.inBlockRet (At.thenRet (At.roundRet (At.inBlockRet (At.thenRet ?_))))
          exact At.ret1 _ rfl rfl (.inl ⟨n + x.toNat % 128 * 128 ^ i, q + i + 1, by rw [← hstep, hm], rfl, rfl⟩) (Ent.refl _)
      ·
        rw [if_neg (by omega)] at hstep
        refine At.skip ?_
        refine At.inBlock (At.then ?_)
        refine At.region ?_
        refine L.mv rfl rfl ?_
        refine L.pure rfl (ev_add rfl rfl (w64 (by omega))) ?_
        refine L.as rfl rfl ?_
        refine L.nil ?_
        exact At.round (i + 1, n + x.toNat % 128 * 128 ^ i) ⟨by simp only; omega, by rw [Nat.pow_succ]; have := Nat.mul_le_mul_right (128 ^ i) (show x.toNat % 128 ≤ 127 by omega); simp only; omega, by show FK.rdGo bs q (3 - (i + 1)) (i + 1) _ = _; rw [show 3 - (i + 1) = 2 - i by omega]; exact hstep, by simp only; omega⟩ (by simp only; omega) ⟨rfl, rfl, rfl, rfl, trivial⟩ (Ent.refl _)
  ·
    obtain rfl : i = 3 := by omega
    refine At.exit ?_
    refine At.thenExit (At.roundExit (At.inBlockHit (At.then ?_)))
    refine At.seq ?_
    refine At.region ?_
    refine L.mv rfl rfl ?_
    refine L.nc rfl rfl ?_
    refine L.fa 2 rfl rfl rfl ?_
    refine L.st rfl rfl rfl rfl (by first | decide | simp | (simp; omega)) ?_
    refine L.nil ?_
    refine At.then ?_
    refine At.seq ?_
    refine At.region ?_
    refine L.as rfl rfl ?_
    refine L.nil ?_
    refine At.then ?_
    refine At.ret ?_
    exact At.ret1 _ rfl rfl (.inr ⟨q, q + 3, 0, hgo.symm, rfl, rfl, rfl⟩) (Ent.refl _)
  -- unused hints: ['nojoin r16']

/-- the document's reader as it stands: at a place, or at a number that was none -/
def rmem (r st : Nat) (A : Option Addr) (c : Nat) (bs : List UInt8) : Except Nat Nat → HP
  | .ok q => HP.ex fun s0 : Int => HP.all [blk r 105 #[.slice A bs.length c, .int .i64 q, .bool false], blk st 3 #[.int .i64 s0]]
  | .error e => HP.ex fun q : Nat => HP.all [blk r 105 #[.slice A bs.length c, .int .i64 q, .bool true], blk st 3 #[.int .i64 e]]

def isBad : Except Nat Nat → Bool
  | .ok _ => false
  | .error _ => true

/-- behind one number more -/
def nextS (bs : List UInt8) : Except Nat Nat → Except Nat Nat
  | .error e => .error e
  | .ok q => match FK.rd bs q with
    | .ok (_, q') => .ok q'
    | .error e => .error e

section
variable {E : Env} {l r' : List HP} {r st : Nat} {A : Option Addr} {c : Nat} {bs : List UInt8}
theorem rmem.cells {s : Except Nat Nat} {w : World} (sl : Sel (rmem r st A c bs s) l r') (hw : Holds E w l) : ∃ (q : Nat) (s0 : Int), w.heap[r]? = some (.cells #[.slice A bs.length c, .int .i64 q, .bool (isBad s)] 105) ∧ w.heap[st]? = some (.cells #[.int .i64 s0] 3) ∧ (∀ q', s = .ok q' → q = q') ∧ (∀ e, s = .error e → s0 = e) := by
  obtain ⟨F1, _, _, _, _, hp, _⟩ := (hw.sel sl).star
  cases s with
  | ok q =>
    obtain ⟨s0, F3, F4, h3, h4, hd, h5, F5, F6, h6, h7, hd', h8, _⟩ := hp
    exact ⟨q, s0, h5.2, h8.2, fun q' h => by injection h, fun e h => by cases h⟩
  | error e =>
    obtain ⟨q, F3, F4, h3, h4, hd, h5, F5, F6, h6, h7, hd', h8, _⟩ := hp
    exact ⟨q, e, h5.2, h8.2, fun q' h => (by cases h), fun e' h => (by injection h with h; rw [h])⟩
theorem rmem.bad {s : Except Nat Nat} (sl : Sel (rmem r st A c bs s) l r') : ∀ w, Holds E w l → CellIs ⟨r, 2, none⟩ (.bool (isBad s)) w := fun w hw => by
  obtain ⟨q, s0, h1, _⟩ := rmem.cells sl hw
  simp [CellIs, World.cell?, h1]
theorem rmem.place {q : Nat} (sl : Sel (rmem r st A c bs (.ok q)) l r') : ∀ w, Holds E w l → CellIs ⟨r, 1, none⟩ (.int .i64 q) w := fun w hw => by
  obtain ⟨q', s0, h1, _, h2, _⟩ := rmem.cells sl hw
  simp [CellIs, World.cell?, h1, h2 q rfl]
theorem rmem.start {e : Nat} (sl : Sel (rmem r st A c bs (.error e)) l r') : ∀ w, Holds E w l → CellIs ⟨st, 0, none⟩ (.int .i64 e) w := fun w hw => by
  obtain ⟨q', s0, h1, h2, _, h3⟩ := rmem.cells sl hw
  simp [CellIs, World.cell?, h2, h3 e rfl]
theorem rmem.mkOk {q : Nat} {s0 : Int} {fr : List HP} : Ent (blk r 105 #[.slice A bs.length c, .int .i64 q, .bool false] :: blk st 3 #[.int .i64 s0] :: fr) (rmem r st A c bs (.ok q) :: fr) :=
  (Ent.all (m := [blk r 105 #[.slice A bs.length c, .int .i64 q, .bool false], blk st 3 #[.int .i64 s0]])).trans (Ent.ex (f := fun s0 : Int => HP.all [blk r 105 #[.slice A bs.length c, .int .i64 q, .bool false], blk st 3 #[.int .i64 s0]]) s0)
theorem rmem.mkBad {q e : Nat} {fr : List HP} : Ent (blk r 105 #[.slice A bs.length c, .int .i64 q, .bool true] :: blk st 3 #[.int .i64 e] :: fr) (rmem r st A c bs (.error e) :: fr) :=
  (Ent.all (m := [blk r 105 #[.slice A bs.length c, .int .i64 q, .bool true], blk st 3 #[.int .i64 e]])).trans (Ent.ex (f := fun q : Nat => HP.all [blk r 105 #[.slice A bs.length c, .int .i64 q, .bool true], blk st 3 #[.int .i64 e]]) q)

theorem nextS_ok {s : Except Nat Nat} {q' : Nat} (h : nextS bs s = .ok q') : ∃ q n, s = .ok q ∧ FK.rd bs q = .ok (n, q') := by
  cases s with
  | error e => cases h
  | ok q =>
    simp only [nextS] at h
    cases hr : FK.rd bs q with
    | error e => rw [hr] at h; cases h
    | ok x =>
      obtain ⟨n, q1⟩ := x
      rw [hr] at h
      injection h with h
      subst h
      exact ⟨q, n, rfl, hr⟩
end

/-- what a call of next hands back: the number; any, where there is none -/
def NextIs (bs : List UInt8) (s : Except Nat Nat) (k : Int) : Prop := ∀ q n q', s = .ok q → FK.rd bs q = .ok (n, q') → k = n

theorem NextIs.small {bs : List UInt8} {s : Except Nat Nat} {k : Int} {q' : Nat} (h : NextIs bs s k) (hs : nextS bs s = .ok q') : 0 ≤ k ∧ k < 2097152 := by
  obtain ⟨q, n, h1, h2⟩ := nextS_ok hs
  have := FK.rd_lt h2
  rw [h q n q' h1 h2]
  omega

set_option maxRecDepth 10000 in
theorem ref_next {p : HP} {A : Option Addr} {c : Nat} {bs : List UInt8} (hp : Reads p A bs) (hl : bs.length ≤ 1099511627776) (r st : Nat) (s : Except Nat Nat) (hq : ∀ q, s = .ok q → q ≤ bs.length) :
    Does Tryd.prog G 56 [.pointer (some ⟨r, 0, none⟩), .pointer (some ⟨st, 0, none⟩)].toArray [rmem r st A c bs s, p]
      (fun u m => ∃ k : Int, u = .int .i64 k ∧ NextIs bs s k ∧ (∀ q, nextS bs s = .ok q → q ≤ bs.length) ∧ m = [rmem r st A c bs (nextS bs s), p]) := by
  cases s with
  | error e =>
  refine Does.body Tryd.func56 rfl rfl fun E fr hE => ?_
  refine At.app2 ?_
  refine At.seq ?_
  refine At.region ?_
  refine L.as rfl rfl ?_
  refine L.nil ?_
  refine At.then ?_
  refine At.seq ?_
  refine At.seq ?_
  refine At.region ?_
  refine L.mv rfl rfl ?_
  refine L.nc rfl rfl ?_
  refine L.fa 2 rfl rfl rfl ?_
  refine L.val rfl (ev_load1 rfl rfl) (rmem.bad .head) ?_
  refine L.nil ?_
  refine At.then ?_
  refine At.condT rfl ?_
  refine At.seq ?_
  refine At.region ?_
  refine L.as rfl rfl ?_
  refine L.nil ?_
  refine At.then ?_
  refine At.ret ?_
  refine At.thenRet ?_
  exact At.ret1 [_, _] rfl rfl ⟨0, rfl, fun q n q' h => (by cases h), fun q h => (by cases h), rfl⟩ (Ent.refl _)
  | ok q =>
  refine Does.body Tryd.func56 rfl rfl fun E fr hE => ?_
  refine At.app2 ?_
  refine At.ex .head ?_
  intro s0
  refine At.openAll ?_
  refine At.app2 ?_
  refine At.seq ?_
  refine At.region ?_
  refine L.as rfl rfl ?_
  refine L.nil ?_
  refine At.then ?_
  refine At.seq ?_
  refine At.seq ?_
  refine At.region ?_
  refine L.mv rfl rfl ?_
  refine L.nc rfl rfl ?_
  refine L.fa 2 rfl rfl rfl ?_
  refine L.ld rfl rfl rfl rfl ?_
  refine L.nil ?_
  refine At.then ?_
  refine At.condF rfl ?_
  refine At.skip ?_
  refine At.then ?_
  refine At.seq ?_
  refine At.region ?_
  refine L.mv rfl rfl ?_
  refine L.mv rfl rfl ?_
  refine L.nc rfl rfl ?_
  refine L.fa 1 rfl rfl rfl ?_
  refine L.ld rfl rfl rfl rfl ?_
  refine L.nc rfl rfl ?_
  refine L.st rfl rfl rfl rfl (by first | decide | simp | (simp; omega)) ?_
  refine L.nil ?_
  refine At.then ?_
  refine At.seq ?_
  refine At.region ?_
  refine L.mv rfl rfl ?_
  refine L.op rfl (o_call rfl rfl rfl hE (ref_number hp hl r q (hq q rfl)) (Ent.sel2 (.tail (.head)) (.tail (.head))) ?_)
  rintro v m hv
  obtain ⟨k, rfl, hk, hq', hm⟩ : ∃ k : Int, v = .int .i64 k ∧ NextIs bs (.ok q) k ∧ (∀ q', nextS bs (.ok q) = .ok q' → q' ≤ bs.length) ∧ Ent (m ++ (blk st 3 #[.int .i64 q] :: fr)) (rmem r st A c bs (nextS bs (.ok q)) :: p :: fr) := by
    rcases hv with ⟨n, q', hr, rfl, rfl⟩ | ⟨e, q', k, hr, rfl, rfl, rfl⟩
    · refine ⟨n, rfl, fun q1 n1 q2 h h1 => ?_, fun q1 h => ?_, ?_⟩
      · injection h with h
        subst h
        rw [hr] at h1
        injection h1 with h1
        injection h1 with h1
        rw [h1]
      · simp only [nextS, hr] at h
        injection h with h
        rw [← h]
        exact (FK.rd_lt hr).2.2
      · simp only [nextS, hr]
        exact (Ent.cons (Ent.perm (List.Perm.swap _ _ _))).trans rmem.mkOk
    · refine ⟨k, rfl, fun q1 n1 q2 h h1 => ?_, fun q1 h => ?_, ?_⟩
      · injection h with h
        subst h
        rw [hr] at h1
        cases h1
      · simp only [nextS, hr] at h
        cases h
      · simp only [nextS, hr]
        exact (Ent.cons (Ent.perm (List.Perm.swap _ _ _))).trans rmem.mkBad
  refine At.ent hm ?_
  refine L.as rfl rfl ?_
  refine L.nil ?_
  refine At.then ?_
  refine At.ret ?_
  exact At.ret1 [_, _] rfl rfl ⟨k, rfl, hk, hq', rfl⟩ (Ent.refl _)
end Go.Proofs.YtagkobkmaigfcaaDoor
