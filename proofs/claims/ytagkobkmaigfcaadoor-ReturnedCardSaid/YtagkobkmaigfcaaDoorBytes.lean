/- Bytes in memory that the call made; numbers as bytes: the walks of flow.Number and of the document's number. -/
import Derived.Test.YtagkobkmaigfcaaDoorMem
import Derived.Test.YtagkobkmaigfcaaDoorPCodec
import Derived.Maps.AppendAt
import Derived.OwnWalk
import Derived.Laws.BitsAllLaws
namespace Go.Proofs.YtagkobkmaigfcaaDoor
open Go Go.RowKit

def bytesV (l : List UInt8) : List Value := l.map fun b => .int .u8 b.toNat
theorem bytesV_length (l : List UInt8) : (bytesV l).length = l.length := by simp [bytesV]
theorem bytesV_append (a b : List UInt8) : bytesV (a ++ b) = bytesV a ++ bytesV b := by simp [bytesV]

/-- bytes that the call made: in a row from 'base' on -/
def OwnBytes (w : World) (base : Nat) (v : Value) (l : List UInt8) : Prop := w.ownsRow base 5 1 v l.length (bytesV l)

/-- where a row may have moved: it stays in its block, or lies in one from B on -/
def Moved (B : Nat) (v v' : Value) : Prop := v'.ownBlock = v.ownBlock ∨ ∃ k, v'.ownBlock = some k ∧ B ≤ k

theorem Moved.refl (B : Nat) (v : Value) : Moved B v v := .inl rfl
theorem Moved.trans {B : Nat} {a b c : Value} (h : Moved B a b) (k : Moved B b c) : Moved B a c := by
  rcases k with k | k
  · rcases h with h | ⟨x, h, hx⟩
    · exact .inl (k.trans h)
    · exact .inr ⟨x, k.trans h, hx⟩
  · exact .inr k
theorem Moved.mono {B B' : Nat} {a b : Value} (h : Moved B a b) (hB : B' ≤ B) : Moved B' a b := by
  rcases h with h | ⟨x, h, hx⟩
  · exact .inl h
  · exact .inr ⟨x, h, by omega⟩

theorem grown_step {w w1 w2 : World} {v v1 : Value} (h : w.grownBy w1 v.ownBlock) (m : Moved w.heap.size v v1) (k : w1.grownBy w2 v1.ownBlock) : w.grownBy w2 v.ownBlock := by
  refine ⟨k.os.trans h.os, k.tape.trans h.tape, k.output.trans h.output, Nat.le_trans h.size k.size, fun i hi hne => ?_⟩
  rw [k.block i (Nat.lt_of_lt_of_le hi h.size) ?_, h.block i hi hne]
  rcases m with m | ⟨x, hm, hx⟩
  · rw [m]; exact hne
  · rw [hm]; intro e; injection e with e; omega

theorem grown_below {w w' : World} {v : Value} {B : Nat} (h : w.grownBy w' v.ownBlock) (hv : ∀ k, v.ownBlock = some k → B ≤ k) (hB : B ≤ w.heap.size) : Below B w w' :=
  (Below.refl _ _).grown h hB hv

theorem Moved.ge {B : Nat} {v v' : Value} (h : Moved B v v') (hv : ∀ k, v.ownBlock = some k → B ≤ k) : ∀ k, v'.ownBlock = some k → B ≤ k := by
  intro k hk
  rcases h with h | ⟨x, h, hx⟩
  · exact hv k (h ▸ hk)
  · rw [hk] at h; injection h with h; omega

theorem infoByte : (Tryd.prog.info? 5).map (fun i => (i.zero, i.size, i.bytes)) = some (some (.int .u8 0), 1, 1) := by kernel_rfl

theorem encN_length_ten : ∀ (k n : Nat), n < 128 ^ k → 0 < k → (FK.encN n).length ≤ k := by
  intro k
  induction k with
  | zero => intro n _ h; omega
  | succ k ih =>
    intro n hn _
    by_cases h : n < 128
    · rw [FK.encN_lt h]; simp
    · rw [FK.encN_ge h]
      rcases Nat.eq_zero_or_pos k with h0 | h0
      · subst h0; simp at hn; omega
      · have := ih (n / 128) (by rw [Nat.div_lt_iff_lt_mul (by omega)]; rwa [Nat.pow_succ] at hn) h0
        simp; omega

theorem encN_le_ten {n : Nat} (h : n < 18446744073709551616) : (FK.encN n).length ≤ 10 := encN_length_ten 10 n (Nat.lt_of_lt_of_le h (by decide)) (by omega)

/-- what a call of Number leaves -/
def NumPost (w : World) (base : Nat) (v : Value) (l : List UInt8) (e : Ending) (w' : World) : Prop :=
  ∃ v', e = .returned v' ∧ OwnBytes w' base v' l ∧ w.grownBy w' v.ownBlock ∧ Moved w.heap.size v v'

theorem low_byte (m : Nat) : (m : Int) % 256 = ((UInt8.ofNat m).toNat : Int) := by
  simp

theorem or_128 (m : Nat) : bits BinOp.or IntKind.u8 ((m : Int) % 256) 128 = ((UInt8.ofNat (m % 128 + 128)).toNat : Int) := by
  have e1 : (m : Int) % 256 = ((m % 256 : Nat) : Int) := by omega
  rw [e1]
  have := u8_or_nat (m % 256) 128 (by omega) (by omega)
  rw [show ((128 : Int)) = ((128 : Nat) : Int) from rfl, this]
  have key : ∀ x : Fin 256, x.val ||| 128 = x.val % 128 + 128 := by decide +kernel
  have := key ⟨m % 256, by omega⟩
  simp only at this
  rw [this]
  have h2 : m % 256 % 128 = m % 128 := by omega
  rw [h2]
  simp
  omega

theorem byte_step {w wr w2 : World} {base : Nat} {v u0 v2 : Value} {l1 : List UInt8} {x : UInt8} {y : Int} {o : Obj} (hg : w.grownBy wr v.ownBlock) (hm : Moved w.heap.size v u0)
    (hown2 : w2.ownsRow base 5 1 v2 (l1.length + 1) (bytesV l1 ++ [.int .u8 y])) (hy : y = x.toNat) (hg2 : (wr.alloc o).grownBy w2 u0.ownBlock) (hat2 : v2.ownBlock = u0.ownBlock ∨ v2.ownBlock = some (wr.heap.size + 1)) :
    OwnBytes w2 base v2 (l1 ++ [x]) ∧ w.grownBy w2 v.ownBlock ∧ Moved w.heap.size v v2 := by
  subst hy
  have hs := hg.size
  refine ⟨?_, grown_step hg hm ((World.grownBy_alloc wr o u0.ownBlock).trans hg2), hm.trans ?_⟩
  · unfold OwnBytes
    rw [bytesV_append, List.length_append]
    exact hown2
  · rcases hat2 with h | h
    · exact .inl h
    · exact .inr ⟨_, h, by omega⟩

set_option maxRecDepth 10000 in
set_option maxHeartbeats 1000000 in
theorem flow_Number_calls (w : World) (base : Nat) (v : Value) (l : List UInt8) (n : Nat) (hn : n < 18446744073709551616) (hown : OwnBytes w base v l) (hl : l.length ≤ 1099511627776) (hbase : base ≤ w.heap.size) :
    Calls Tryd.prog 74 #[v, .int .u64 n] w (NumPost w base v (l ++ FK.encN n)) := by
  obtain ⟨i0, hi, hz0, hz1, hz2⟩ := info_parts infoByte
  have HL := Lib.hid (show (l ++ FK.encN n).length ≤ 1099511627786 by have := encN_le_ten hn; simp; omega)
  have HOWN := Lib.hid hown
  have HI := Lib.hid hi
  have HZ0 := Lib.hid hz0
  have HZ1 := Lib.hid hz1
  have HZ2 := Lib.hid hz2
  clear hown hi hz0 hz1 hz2
  go_enter Tryd.func74, Tryd.ntmps74
  go_wp2
  go_loopw [0, 1] (fun t s wr => ∃ (l1 : List UInt8) (m : Nat), s = .int .u64 m ∧ m < 18446744073709551616 ∧ l1 ++ FK.encN m = l ++ FK.encN n ∧ OwnBytes wr base t l1 ∧ w.grownBy wr v.ownBlock ∧ Moved w.heap.size v t) (fun _ s _ => (intOf s).toNat)
  case atStart => exact ⟨l, n, rfl, hn, rfl, HOWN.out, World.grownBy.refl _ _, .refl _ _⟩
  case round =>
    obtain ⟨l1, m, rfl, hm, he, hown, hg, hmv⟩ := hrel
    have HE := Lib.hid he
    have HG := Lib.hid hg
    have HM := Lib.hid hmv
    have hsz := hg.size
    have hlen : l1.length ≤ 1099511627786 := by
      have := congrArg List.length he
      have h2 := HL.out
      simp at this h2; omega
    clear he hg hmv
    by_cases hbig : 127 < m
    · have hor := or_128 m
      have HN := Lib.hid (FK.encN_ge (n := m) (by omega))
      obtain ⟨x, hx⟩ : ∃ x : UInt8, x = UInt8.ofNat (m % 128 + 128) := ⟨_, rfl⟩
      rw [← hx] at hor HN
      clear hx
      go_wp2_with (at_builtin; go_must (refine wpList_append_own_at _ rfl (.tmp 9) (.tmp 13) 36 rfl base 5 i0 (.int .u8 0) 1 1 Tryd.underlying36 HI.out HZ0.out HZ1.out HZ2.out rfl (by decide) u0 l1.length (bytesV l1) rfl (World.ownsRow.alloc hown _) ⟨wr.heap.size, 0, none⟩ 1 1 [.int .u8 x.toNat] rfl rfl (cell_one_new _ _ _) (by simp [Value.oneCell']) (by unfold maxLen; omega) (by omega) (by simp; omega) ?_); intro v2 w2 hown2 hg2 _ hat2)
      obtain ⟨h1, h2, h3⟩ := byte_step HG.out HM.out hown2 rfl hg2 (by simpa using hat2)
      have H1 := Lib.hid h1
      have H2 := Lib.hid h2
      have H3 := Lib.hid h3
      clear h1 h2 h3 hown2 hg2 hat2 hown
      go_roundw
      case rel => exact ⟨l1 ++ [x], m / 128, by go_num, by omega, by rw [← HE.out, HN.out]; simp, H1.out, H2.out, H3.out⟩
      case measure => simp [intOf]; omega
    · have hlow := low_byte m
      have HN := Lib.hid (FK.encN_lt (n := m) (by omega))
      obtain ⟨x, hx⟩ : ∃ x : UInt8, x = UInt8.ofNat m := ⟨_, rfl⟩
      rw [← hx] at hlow HN
      have hy : (m : Int) = x.toNat := by omega
      have HY := Lib.hid hy
      clear hx hlow hy
      go_wp2_with (at_builtin; go_must (refine wpList_append_own_at _ rfl (.tmp 15) (.tmp 18) 36 rfl base 5 i0 (.int .u8 0) 1 1 Tryd.underlying36 HI.out HZ0.out HZ1.out HZ2.out rfl (by decide) u0 l1.length (bytesV l1) rfl (World.ownsRow.alloc hown _) ⟨wr.heap.size, 0, none⟩ 1 1 [.int .u8 (m : Int)] rfl rfl (cell_one_new _ _ _) (by simp [Value.oneCell']) (by unfold maxLen; omega) (by omega) (by simp; omega) ?_); intro v2 w2 hown2 hg2 _ hat2)
      obtain ⟨h1, h2, h3⟩ := byte_step HG.out HM.out hown2 HY.out hg2 (by simpa using hat2)
      have H1 := Lib.hid h1
      have H2 := Lib.hid h2
      have H3 := Lib.hid h3
      clear h1 h2 h3 hown2 hg2 hat2 hown
      go_wp2
      go_ret
      exact ⟨v2, rfl, by rw [← HE.out, HN.out]; exact H1.out, H2.out, H3.out⟩

set_option maxRecDepth 10000 in
set_option maxHeartbeats 1000000 in
theorem ref_number_calls (w : World) (base : Nat) (v : Value) (l : List UInt8) (n : Nat) (hn : n < 9223372036854775808) (hown : OwnBytes w base v l) (hl : l.length ≤ 1099511627776) (hbase : base ≤ w.heap.size) :
    Calls Tryd.prog 55 #[v, .int .i64 n] w (NumPost w base v (l ++ FK.encN n)) := by
  obtain ⟨i0, hi, hz0, hz1, hz2⟩ := info_parts infoByte
  have HL := Lib.hid (show (l ++ FK.encN n).length ≤ 1099511627786 by have := encN_le_ten (n := n) (by omega); simp; omega)
  have HOWN := Lib.hid hown
  have HI := Lib.hid hi
  have HZ0 := Lib.hid hz0
  have HZ1 := Lib.hid hz1
  have HZ2 := Lib.hid hz2
  clear hown hi hz0 hz1 hz2
  go_enter Tryd.func55, Tryd.ntmps55
  go_wp2
  go_loopw [0, 1] (fun t s wr => ∃ (l1 : List UInt8) (m : Nat), s = .int .i64 m ∧ m < 9223372036854775808 ∧ l1 ++ FK.encN m = l ++ FK.encN n ∧ OwnBytes wr base t l1 ∧ w.grownBy wr v.ownBlock ∧ Moved w.heap.size v t) (fun _ s _ => (intOf s).toNat)
  case atStart => exact ⟨l, n, rfl, hn, rfl, HOWN.out, World.grownBy.refl _ _, .refl _ _⟩
  case round =>
    obtain ⟨l1, m, rfl, hm, he, hown, hg, hmv⟩ := hrel
    have HE := Lib.hid he
    have HG := Lib.hid hg
    have HM := Lib.hid hmv
    have hsz := hg.size
    have hlen : l1.length ≤ 1099511627786 := by
      have := congrArg List.length he
      have h2 := HL.out
      simp at this h2; omega
    clear he hg hmv
    by_cases hbig : 127 < m
    · have HN := Lib.hid (FK.encN_ge (n := m) (by omega))
      obtain ⟨x, hx⟩ : ∃ x : UInt8, x = UInt8.ofNat (m % 128 + 128) := ⟨_, rfl⟩
      have hy : (m : Int) % 128 + 128 = x.toNat := by rw [hx]; simp; omega
      rw [← hx] at HN
      have HY := Lib.hid hy
      clear hx hy
      go_wp2_with (at_builtin; go_must (refine wpList_append_own_at _ rfl (.tmp 7) (.tmp 12) 36 rfl base 5 i0 (.int .u8 0) 1 1 Tryd.underlying36 HI.out HZ0.out HZ1.out HZ2.out rfl (by decide) u0 l1.length (bytesV l1) rfl (World.ownsRow.alloc hown _) ⟨wr.heap.size, 0, none⟩ 1 1 [.int .u8 ((m : Int) % 128 + 128)] rfl rfl (cell_one_new _ _ _) (by simp [Value.oneCell']) (by unfold maxLen; omega) (by omega) (by simp; omega) ?_); intro v2 w2 hown2 hg2 _ hat2)
      obtain ⟨h1, h2, h3⟩ := byte_step HG.out HM.out hown2 HY.out hg2 (by simpa using hat2)
      have H1 := Lib.hid h1
      have H2 := Lib.hid h2
      have H3 := Lib.hid h3
      clear h1 h2 h3 hown2 hg2 hat2 hown
      go_wp2
      go_roundw
      case rel => exact ⟨l1 ++ [x], m / 128, by go_num, by omega, by rw [← HE.out, HN.out]; simp, H1.out, H2.out, H3.out⟩
      case measure => simp [intOf]; omega
    · have HN := Lib.hid (FK.encN_lt (n := m) (by omega))
      obtain ⟨x, hx⟩ : ∃ x : UInt8, x = UInt8.ofNat m := ⟨_, rfl⟩
      have hy : (m : Int) = x.toNat := by rw [hx]; simp; omega
      rw [← hx] at HN
      have HY := Lib.hid hy
      clear hx hy
      go_wp2_with (at_builtin; go_must (refine wpList_append_own_at _ rfl (.tmp 16) (.tmp 19) 36 rfl base 5 i0 (.int .u8 0) 1 1 Tryd.underlying36 HI.out HZ0.out HZ1.out HZ2.out rfl (by decide) u0 l1.length (bytesV l1) rfl (World.ownsRow.alloc hown _) ⟨wr.heap.size, 0, none⟩ 1 1 [.int .u8 (m : Int)] rfl rfl (cell_one_new _ _ _) (by simp [Value.oneCell']) (by unfold maxLen; omega) (by omega) (by simp; omega) ?_); intro v2 w2 hown2 hg2 _ hat2)
      obtain ⟨h1, h2, h3⟩ := byte_step HG.out HM.out hown2 HY.out hg2 (by simpa using hat2)
      have H1 := Lib.hid h1
      have H2 := Lib.hid h2
      have H3 := Lib.hid h3
      clear h1 h2 h3 hown2 hg2 hat2 hown
      go_wp2
      go_ret
      exact ⟨v2, rfl, by rw [← HE.out, HN.out]; exact H1.out, H2.out, H3.out⟩
end Go.Proofs.YtagkobkmaigfcaaDoor
