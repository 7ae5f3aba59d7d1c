/- The walks of flow's reader: number, the list of integers, the node. -/
import Derived.Test.YtagkobkmaigfcaaDoorSlG
import Derived.Test.YtagkobkmaigfcaaDoorSlM
import Derived.Test.YtagkobkmaigfcaaDoorPRead
namespace Go.Proofs.YtagkobkmaigfcaaDoor
open Go Go.RowKit Go.SL
variable {G : Env → Prop}

/-- p holds these bytes at A -/
structure Reads (p : HP) (A : Option Addr) (bs : List UInt8) : Prop where
  form : bs ≠ [] → ∃ b o, A = some ⟨b, o, none⟩
  cell : ∀ w F, p.sat w F → ∀ b o, A = some ⟨b, o, none⟩ → ∀ (j : Nat) (x : UInt8), bs[j]? = some x → w.cell? ⟨b, o + j, none⟩ = some (.int .u8 x.toNat)

theorem Reads.at {E : Env} {p : HP} {A : Option Addr} {bs : List UInt8} {l r : List HP} {b o j : Nat} {x : UInt8} (h : Reads p A bs) (s : Sel p l r) (hA : A = some ⟨b, o, none⟩) (hx : bs[j]? = some x) : ∀ w, Holds E w l → CellIs ⟨b, o + j, none⟩ (.int .u8 x.toNat) w := fun w hw => by
  obtain ⟨F1, _, _, _, _, hp, _⟩ := (hw.sel s).star
  exact h.cell w F1 hp b o hA j x hx

theorem shl7 (c i : Nat) (hc : c < 128) (hi : i ≤ 2) : IntKind.i64.wrap ((c : Int) * 2 ^ min (7 * (i : Int)).toNat IntKind.i64.bits) = ((c * 128 ^ i : Nat) : Int) := by
  have : i = 0 ∨ i = 1 ∨ i = 2 := by omega
  rcases this with rfl | rfl | rfl
  · exact w64 (x := (c : Int) * 1) (by omega)
  · exact w64 (x := (c : Int) * 128) (by omega)
  · exact w64 (x := (c : Int) * 16384) (by omega)

set_option maxRecDepth 10000 in
theorem reader_number {p : HP} {A : Option Addr} {c : Nat} {bs : List UInt8} (hp : Reads p A bs) (hl : bs.length ≤ 1099511627776) (r q : Nat) (hq : q ≤ bs.length) :
    DoesX Tryd.prog G 84 [.pointer (some ⟨r, 0, none⟩)].toArray [blk r 156 #[.slice A bs.length c, .int .i64 q], p]
      (fun u m => ∃ n q' : Nat, FK.rd bs q = .ok (n, q') ∧ u = .int .i64 n ∧ m = [blk r 156 #[.slice A bs.length c, .int .i64 q'], p])
      (fun x m => ∃ e q' : Nat, FK.rd bs q = .error e ∧ x = [{ v := .iface 153 (.int .i64 e), recovered := false }] ∧ m = [blk r 156 #[.slice A bs.length c, .int .i64 q'], p]) := by
  refine DoesX.body Tryd.func84 rfl rfl fun E fr hE => ?_
  refine At.app2 ?_
  refine At.seq ?_
  refine At.region ?_
  refine L.as rfl rfl ?_
  refine L.nil ?_
  refine At.then ?_
  refine At.seq ?_
  refine At.region ?_
  refine L.mv rfl rfl ?_
  refine L.nc rfl rfl ?_
  refine L.fa 1 rfl rfl rfl ?_
  refine L.ld rfl rfl rfl rfl ?_
  refine L.as rfl rfl ?_
  refine L.as rfl rfl ?_
  refine L.nil ?_
  refine At.then ?_
  refine At.seq (At.cut (X := Nat) (fun _ => [(3, .int .i64 q)]) (fun q' => [blk r 156 #[.slice A bs.length c, .int .i64 q'], p] ++ fr) (fun _ => FK.rd bs q = .error q) ?_ ?_)
  ·
    refine At.seq ?_
    refine At.region ?_
    refine L.mv rfl rfl ?_
    refine L.nil ?_
    refine At.then ?_
    refine At.block ?_
    refine At.loop (X := Nat × Nat) (fun x => [(11, .int .i64 x.1), (4, .int .i64 x.2), (3, .int .i64 q), (0, .pointer (some ⟨r, 0, none⟩))]) (fun x => blk r 156 #[.slice A bs.length c, .int .i64 (q + x.1 : Nat)] :: p :: fr) (fun x => x.1 ≤ 3 ∧ x.2 < 128 ^ x.1 ∧ FK.rdGo bs q (3 - x.1) x.1 x.2 = FK.rd bs q ∧ q + x.1 ≤ bs.length) (fun x => 3 - x.1) (0, 0) ⟨by omega, by simp, (FK.rd_go bs q).symm, hq⟩ ⟨rfl, rfl, rfl, rfl, trivial⟩ (Ent.refl _) ?_
    rintro ⟨i, n⟩ ⟨hi, hn, hgo, hqi⟩
    simp only at hi hn hgo hqi ⊢
    refine At.seq ?_
    refine At.region ?_
    refine L.pure rfl (ev_lss rfl rfl rfl) ?_
    refine L.nil ?_
    refine At.then ?_
    refine At.seq ?_
    refine At.condD rfl (fun c12 => ?_) (fun c12 => ?_)
    ·
      have hi2 : i ≤ 2 := by omega
      refine At.skip ?_
      refine At.then ?_
      refine At.seq ?_
      refine At.block ?_
      refine At.seq ?_
      refine At.region ?_
      refine L.mv rfl rfl ?_
      refine L.as rfl rfl ?_
      refine L.nil ?_
      refine At.then ?_
      refine At.seq ?_
      refine At.seq ?_
      refine Dr.start rfl ?_
      refine Dr.p 0 rfl rfl (by kernel_rfl) (ev_move rfl) ?_
      refine Dr.p 1 rfl rfl (by kernel_rfl) (ev_nil rfl) ?_
      refine Dr.p 2 rfl rfl (by kernel_rfl) (ev_field (off := 1) rfl rfl) ?_
      refine Dr.ld 3 rfl rfl (by kernel_rfl) (ev_load1 rfl rfl) (cellIs rfl) ?_
      refine Dr.p 4 rfl rfl (by kernel_rfl) (ev_move rfl) ?_
      refine Dr.p 5 rfl rfl (by kernel_rfl) (ev_nil rfl) ?_
      refine Dr.p 6 rfl rfl (by kernel_rfl) (ev_field (off := 0) rfl rfl) ?_
      refine Dr.ld 7 rfl rfl (by kernel_rfl) (ev_load1 rfl rfl) (cellIs rfl) ?_
      refine Dr.p 8 rfl rfl (by kernel_rfl) (ev_lenS rfl rfl) ?_
      refine Dr.p 9 rfl rfl (by kernel_rfl) (ev_eql rfl rfl rfl) ?_
      refine Dr.done (by kernel_rfl) ?_
      refine At.then ?_
      refine At.condD rfl (fun c23 => ?_) (fun c23 => ?_)
      ·
        refine At.exit ?_
        refine At.thenExit (At.inBlockMiss rfl (At.thenExit (At.roundExit (At.inBlockHit ?_))))
        exact At.meet (q + i) (by rw [← hgo, show 3 - i = (2 - i) + 1 by omega, FK.rdGo, List.getElem?_eq_none (by omega)]) ⟨rfl, trivial⟩ (Ent.refl _)
      ·
        have hlt : q + i < bs.length := by omega
        obtain ⟨b, o, hA⟩ := hp.form (by intro h; simp [h] at hlt)
        obtain ⟨x, hx⟩ : ∃ x, bs[q + i]? = some x := ⟨bs[q + i], by simp [hlt]⟩
        have hxl := x.toNat_lt
        have hpow : 128 ^ i ≤ 16384 := Nat.pow_le_pow_right (by omega) (by omega : i ≤ 2)
        have hstep := hgo
        rw [show 3 - i = (2 - i) + 1 by omega, FK.rdGo, hx] at hstep
        simp only at hstep
        refine At.skip ?_
        refine At.then ?_
        refine At.seq ?_
        refine Dr.start rfl ?_
        refine Dr.p 0 rfl rfl (by kernel_rfl) (ev_move rfl) ?_
        refine Dr.p 1 rfl rfl (by kernel_rfl) (ev_nil rfl) ?_
        refine Dr.p 2 rfl rfl (by kernel_rfl) (ev_field (off := 0) rfl rfl) ?_
        refine Dr.ld 3 rfl rfl (by kernel_rfl) (ev_load1 rfl rfl) (cellIs rfl) ?_
        refine Dr.p 4 rfl rfl (by kernel_rfl) (ev_move rfl) ?_
        refine Dr.p 5 rfl rfl (by kernel_rfl) (ev_nil rfl) ?_
        refine Dr.p 6 rfl rfl (by kernel_rfl) (ev_field (off := 1) rfl rfl) ?_
        refine Dr.ld 7 rfl rfl (by kernel_rfl) (ev_load1 rfl rfl) (cellIs rfl) ?_
        refine Dr.p 8 rfl rfl (by kernel_rfl) (ev_ixN (z := 1) rfl rfl (by rw [hA]; rfl) rfl hlt) ?_
        refine Dr.ld 9 rfl rfl (by kernel_rfl) (ev_load1 rfl rfl) (hp.at (.tail (.head)) hA (by simpa using hx)) ?_
        refine Dr.p 10 rfl rfl (by kernel_rfl) (ev_assign rfl) ?_
        refine Dr.done (by kernel_rfl) ?_
        refine At.then ?_
        refine At.seq ?_
        refine At.region ?_
        refine L.mv rfl rfl ?_
        refine L.nc rfl rfl ?_
        refine L.fa 1 rfl rfl rfl ?_
        refine L.ld rfl rfl rfl rfl ?_
        refine L.pure rfl (ev_add rfl rfl (w64 (by omega))) ?_
        refine L.nc rfl rfl ?_
        refine L.fa 1 rfl rfl rfl ?_
        refine L.st rfl rfl rfl rfl (by first | decide | simp | (simp; omega)) ?_
        refine L.nil ?_
        refine At.then ?_
        refine At.seq ?_
        refine At.region ?_
        refine L.mv rfl rfl ?_
        refine L.mv rfl rfl ?_
        refine L.pure rfl (ev_and rfl rfl (and_127 _ hxl)) ?_
        refine L.pure rfl (ev_conv rfl rfl rfl (w64 (by omega))) ?_
        refine L.mv rfl rfl ?_
        refine L.pure rfl (ev_mul rfl rfl (w64 (by omega))) ?_
        refine L.pure rfl (ev_shl rfl rfl (by omega) (shl7 (x.toNat % 128) i (by omega) hi2)) ?_
        refine L.pure rfl (ev_or rfl rfl (or_shift i n (x.toNat % 128) hn hi2 (by omega))) ?_
        refine L.as rfl rfl ?_
        refine L.nil ?_
        refine At.then ?_
        refine At.seq ?_
        refine At.region ?_
        refine L.mv rfl rfl ?_
        refine L.pure rfl (ev_lss rfl rfl rfl) ?_
        refine L.nil ?_
        refine At.then ?_
        refine At.condD rfl (fun c50 => ?_) (fun c50 => ?_)
        ·
          rw [if_pos (by omega)] at hstep
          have hm : x.toNat % 128 = x.toNat := Nat.mod_eq_of_lt (by omega)
          refine At.seq ?_
          refine At.seq ?_
          refine At.region ?_
          refine L.mv rfl rfl ?_
          refine L.bool rfl (ev_eql rfl rfl rfl) (fun _ _ => trivial) fun c52 e52 => ?_
          refine L.mv rfl rfl ?_
          refine L.abs c52 (by rfl) ?_
          refine L.g rfl rfl (fun _ => rfl) (ev_move rfl) (fun _ _ => trivial) ?_
          refine L.abs c52 (by rfl) ?_
          refine L.g rfl rfl (fun _ => rfl) (ev_gtr rfl rfl rfl) (fun _ _ => trivial) ?_
          refine L.bool rfl (ev_pickAnd rfl rfl rfl) (fun _ _ => trivial) fun c56 e56 => ?_
          refine L.nil ?_
          refine At.then ?_
          refine At.cond rfl (fun c56 => ?_) (fun c56 => ?_)
          ·
            simp only [e56, e52, Bool.and_eq_true, decide_eq_true_eq] at c56
            refine At.exit ?_
            refine At.thenExit (At.inBlockMiss rfl (At.thenExit (At.roundExit (At.inBlockHit ?_))))
            exact At.meet (q + i + 1) (by rw [← hstep, if_pos (by omega)]) ⟨rfl, trivial⟩ (Ent.refl _)
          ·
            rw [if_neg (by intro h; rw [e56, e52] at c56; simp at c56; omega)] at hstep
            refine At.skip ?_
            refine At.then ?_
            refine At.seq ?_
            refine At.region ?_
            refine L.mv rfl rfl ?_
            refine L.as rfl rfl ?_
            refine L.nil ?_
            refine At.then ?_
            refine At.ret ?_
            refine At.inBlockRet (At.thenRet (At.roundRet (At.inBlockRet (At.meetRet ?_))))
            exact At.endsX (.inl rfl) (At.ret1 _ rfl rfl ⟨n + x.toNat % 128 * 128 ^ i, q + i + 1, by rw [← hstep, hm], rfl, rfl⟩ (Ent.refl _))
        ·
          rw [if_neg (by omega)] at hstep
          refine At.skip ?_
          refine At.inBlock (At.then ?_)
          refine At.region ?_
          refine L.pure rfl (ev_add rfl rfl (w64 (by omega))) ?_
          refine L.mv rfl rfl ?_
          refine L.nil ?_
          exact At.round (i + 1, n + x.toNat % 128 * 128 ^ i) ⟨by simp only; omega, by rw [Nat.pow_succ]; have := Nat.mul_le_mul_right (128 ^ i) (show x.toNat % 128 ≤ 127 by omega); simp only; omega, by show FK.rdGo bs q (3 - (i + 1)) (i + 1) _ = _; rw [show 3 - (i + 1) = 2 - i by omega]; exact hstep, by simp only; omega⟩ (by simp only; omega) ⟨rfl, rfl, rfl, rfl, trivial⟩ (Ent.refl _)
    ·
      obtain rfl : i = 3 := by omega
      refine At.exit ?_
      refine At.thenExit (At.roundExit (At.inBlockHit ?_))
      exact At.meet (q + 3) hgo.symm ⟨rfl, trivial⟩ (Ent.refl _)
  intro q' hbad
  refine At.region ?_
  refine L.mv rfl rfl ?_
  refine L.pure rfl (ev_iface rfl rfl rfl) ?_
  refine L.op rfl (o_panic rfl ?_)
  exact At.panicX _ ⟨q, q', hbad, rfl, rfl⟩ (Ent.refl _)
end Go.Proofs.YtagkobkmaigfcaaDoor
