/- A timer put into its slot. -/
import Derived.Test.YtmeegfamopaljaaGreatDoorFiL
import Derived.Test.YtmeegfamopaljaaGreatDoorFiI
namespace Go.Proofs.YtmeegfamopaljaaGreatDoor
open Go Go.RowKit Go.SL
open FK (upd upd_at upd_off)
set_option maxRecDepth 10000 in
set_option maxHeartbeats 1000000 in
theorem put_does {G : Env → Prop} {S : FK.WS} {a b : List FK.Tmr} {t : FK.Tmr} {rest : List Nat} (w : Nat) (h : FK.Inv S (t.blk :: rest)) (hS : S.tms = a ++ t :: b) (hsq : S.seq < 9223372036854775808) (hln : S.tms.length ≤ 99999)
    (hlow : ∀ u ∈ S.tms, u.blk ∉ t.blk :: rest → u.pos = (t.place S.now).pos → u.seq < t.seq) :
    Does Tryz.prog G 203 [ptr w, ptr t.blk].toArray [wheelAt w S] fun v m => v = .tuple #[] ∧ m = [wheelAt w (S.put a t b)] := by
  have htm : t ∈ S.tms := by rw [hS]; simp
  obtain ⟨k1, k2, k3⟩ := FK.place_lt h htm
  obtain ⟨hab, hbb⟩ := FK.nodup_mid (f := FK.Tmr.blk) (t := t) (by rw [← hS]; exact h.blks)
  obtain ⟨lv, hlv⟩ : ∃ lv, lv = FK.lev S.now t.due := ⟨_, rfl⟩
  obtain ⟨st, hst⟩ : ∃ st, st = FK.slt lv t.due := ⟨_, rfl⟩
  obtain ⟨k, hk⟩ : ∃ k, k = 64 * lv + st := ⟨_, rfl⟩
  have hpl : t.place S.now = { t with lvl := lv, slot := st } := by subst hst; subst hlv; rfl
  have hkp : (t.place S.now).pos = k := by rw [hpl, hk]; rfl
  rw [hpl] at k1 k2
  replace k1 : lv < 11 := k1
  replace k2 : st < 64 := k2
  rw [hkp] at k3 hlow
  have hdue := h.due t htm
  have hnow : S.now ≤ t.due := hdue.1
  have hd62 : t.due ≤ 4611686018427387904 := hdue.2
  have hxl : t.due ^^^ S.now < 18446744073709551616 := Nat.xor_lt_two_pow (n := 64) (show t.due < 18446744073709551616 by omega) (show S.now < 18446744073709551616 by omega)
  have h64 := len64_le hxl
  have hlev : (len64 (t.due ^^^ S.now) - 1) / 6 = lv := by rw [lev_len, hlv]; rfl
  have hslot : t.due / 2 ^ (6 * lv) % 64 = st := by rw [hst, ← FK.pow64]; rfl
  have hdiv : t.due / 2 ^ (6 * lv) ≤ t.due := Nat.div_le_self _ _
  have hsl := slot_len h (by omega) k3
  have hus := h.uslt lv k1
  have htq := h.seqle t htm
  have hmemS : ∀ x ∈ S.bs k, ∃ u ∈ a ++ b, u.blk = x := fun x hx => by
    obtain ⟨u, hu, e, _, hun⟩ := h.of_slot k3 hx
    rw [hS] at hu
    rcases List.mem_append.1 hu with hu | hu
    · exact ⟨u, by simp [hu], e⟩
    · rcases List.mem_cons.1 hu with rfl | hu
      · simp at hun
      · exact ⟨u, by simp [hu], e⟩
  have hbel : Below' (tmrs (a ++ b)) (S.bs k) (sqOf (a ++ b)) t.seq := tmrs_below hmemS fun u hu hin => by
    have hum : u ∈ S.tms := by
      rw [hS]
      rcases List.mem_append.1 hu with hu | hu <;> simp [hu]
    obtain ⟨x, hx, e, hp, hun⟩ := h.of_slot k3 hin
    have : x = u := FK.nodup_eq h.blks hx hum e
    subst this
    exact hlow x hum hun hp
  obtain ⟨q, hq⟩ : ∃ q, q = t.due / 2 ^ (6 * lv) := ⟨_, rfl⟩
  rw [← hq] at hslot hdiv
  have hp2 : (2 : Nat) ^ st < 18446744073709551616 := Nat.pow_lt_pow_right (a := 2) (m := st) (n := 64) (by omega) k2
  have hput : S.put a t b = { S with us := upd S.us lv (S.us lv ||| 2 ^ st), bs := upd S.bs k (S.bs k ++ [t.blk]), tms := a ++ { t with lvl := lv, slot := st } :: b } := by
    unfold FK.WS.put
    rw [hkp, hpl]
  have hby : byOf (a ++ t :: b) = byOf (a ++ { t with lvl := lv, slot := st } :: b) := by simp [byOf]
  clear hdue
  refine Does.body Tryz.func203 rfl rfl fun E fr hE => ?_
  refine At.app1 ?_
  refine At.openWheel .head fun sl mp => ?_
  rw [hS]
  refine At.ent (l' := ptrsAt (sl k) (S.bs k) :: slotsBut sl S.bs k :: tmBlk t :: tmrs (a ++ b) :: whl w S sl mp :: vmap plV mp (byOf (a ++ t :: b)) :: fr) ?_ ?_
  · refine (Ent.perm (List.Perm.swap _ _ _)).trans ((slots_open k3).trans (Ent.cons (Ent.cons ?_)))
    refine (Ent.perm (List.Perm.swap _ _ _)).trans (tmrs_open.trans ?_)
    exact Ent.refl _
  refine At.formRow .head ?_
  intro A c hA hnil hform hc1 hc2 _
  rw [hA]
  refine At.seq ?_
  refine Dr.start rfl ?_
  refine Dr.p 0 rfl rfl (by kernel_rfl) (ev_move rfl) ?_
  refine Dr.p 1 rfl rfl (by kernel_rfl) (ev_move rfl) ?_
  refine Dr.p 2 rfl rfl (by kernel_rfl) (ev_nil rfl) ?_
  refine Dr.p 3 rfl rfl (by kernel_rfl) (ev_field (off := 3) rfl rfl) ?_
  refine Dr.ld 4 rfl rfl (by kernel_rfl) (ev_load1 rfl rfl) (cellIs rfl) ?_
  refine Dr.p 5 rfl rfl (by kernel_rfl) (ev_move rfl) ?_
  refine Dr.p 6 rfl rfl (by kernel_rfl) (ev_nil rfl) ?_
  refine Dr.p 7 rfl rfl (by kernel_rfl) (ev_field (off := 0) rfl rfl) ?_
  refine Dr.ld 8 rfl rfl (by kernel_rfl) (ev_load1 rfl rfl) (cellIs (wcell_at0 _ _ _ _ _)) ?_
  refine Dr.p 9 rfl rfl (by kernel_rfl) (ev_xor (r := ((t.due ^^^ S.now : Nat) : Int)) rfl rfl (xor_nat (by omega) (by omega))) ?_
  refine Dr.run 10 rfl rfl (by kernel_rfl) (o_call rfl rfl rfl hE (len64_does _ hxl) (Ent.refl _) ?_)
  rintro v m ⟨rfl, rfl⟩
  refine At.app0 ?_
  refine Dr.kept [true, true] (by kernel_rfl) (Kept.cons (cellIs (wcell_at0 _ _ _ _ _)) (Kept.cons (cellIs rfl) Kept.nil)) ?_
  refine Dr.p 11 rfl rfl (by kernel_rfl) (ev_sub (r := ((len64 (t.due ^^^ S.now) : Int) - 1)) rfl rfl (by rw [w64 (by omega)])) ?_
  refine Dr.p 12 rfl rfl (by kernel_rfl) (ev_max (r := ((len64 (t.due ^^^ S.now) - 1 : Nat) : Int)) rfl rfl (by omega)) ?_
  refine Dr.p 13 rfl rfl (by kernel_rfl) (ev_quo (r := (lv : Int)) rfl rfl (by omega) (by rw [← hlev, Int.tdiv_eq_ediv_of_nonneg (by omega), w64 (by omega)]; omega)) ?_
  refine Dr.p 14 rfl rfl (by kernel_rfl) (ev_nil rfl) ?_
  refine Dr.p 15 rfl rfl (by kernel_rfl) (ev_field (off := 5) rfl rfl) ?_
  refine Dr.run 16 rfl rfl (by kernel_rfl) (o_store1 rfl rfl rfl rfl rfl (by first | decide | simp | (simp; omega)) ?_)
  refine Dr.kept [false, false] (by kernel_rfl) Kept.nil ?_
  refine Dr.done (by kernel_rfl) ?_
  refine At.then ?_
  refine At.seq ?_
  refine Dr.start rfl ?_
  refine Dr.p 0 rfl rfl (by kernel_rfl) (ev_move rfl) ?_
  refine Dr.p 1 rfl rfl (by kernel_rfl) (ev_move rfl) ?_
  refine Dr.p 2 rfl rfl (by kernel_rfl) (ev_nil rfl) ?_
  refine Dr.p 3 rfl rfl (by kernel_rfl) (ev_field (off := 3) rfl rfl) ?_
  refine Dr.ld 4 rfl rfl (by kernel_rfl) (ev_load1 rfl rfl) (cellIs rfl) ?_
  refine Dr.p 5 rfl rfl (by kernel_rfl) (ev_move rfl) ?_
  refine Dr.p 6 rfl rfl (by kernel_rfl) (ev_nil rfl) ?_
  refine Dr.p 7 rfl rfl (by kernel_rfl) (ev_field (off := 5) rfl rfl) ?_
  refine Dr.ld 8 rfl rfl (by kernel_rfl) (ev_load1 rfl rfl) (cellIs rfl) ?_
  refine Dr.p 9 rfl rfl (by kernel_rfl) (ev_mul (r := ((6 * lv : Nat) : Int)) rfl rfl (by rw [w64 (by omega)]; simp)) ?_
  refine Dr.p 10 rfl rfl (by kernel_rfl) (ev_shr (r := (q : Int)) rfl rfl (by omega) (by rw [hq]; exact shr_nat t.due (6 * lv) (by omega) (by omega))) ?_
  refine Dr.p 11 rfl rfl (by kernel_rfl) (ev_conv (r := (q : Int)) rfl rfl rfl (w64 (by omega))) ?_
  refine Dr.p 12 rfl rfl (by kernel_rfl) (ev_rem (r := (st : Int)) rfl rfl (by omega) (by rw [Int.tmod_eq_emod_of_nonneg (by omega)]; omega)) ?_
  refine Dr.p 13 rfl rfl (by kernel_rfl) (ev_nil rfl) ?_
  refine Dr.p 14 rfl rfl (by kernel_rfl) (ev_field (off := 6) rfl rfl) ?_
  refine Dr.run 15 rfl rfl (by kernel_rfl) (o_store1 rfl rfl rfl rfl rfl (by first | decide | simp | (simp; omega)) ?_)
  refine Dr.kept [false, false] (by kernel_rfl) Kept.nil ?_
  refine Dr.done (by kernel_rfl) ?_
  refine At.then ?_
  refine At.seq ?_
  refine Dr.start rfl ?_
  refine Dr.p 0 rfl rfl (by kernel_rfl) (ev_move rfl) ?_
  refine Dr.p 1 rfl rfl (by kernel_rfl) (ev_move rfl) ?_
  refine Dr.p 2 rfl rfl (by kernel_rfl) (ev_nil rfl) ?_
  refine Dr.p 3 rfl rfl (by kernel_rfl) (ev_field (off := 5) rfl rfl) ?_
  refine Dr.ld 4 rfl rfl (by kernel_rfl) (ev_load1 rfl rfl) (cellIs rfl) ?_
  refine Dr.p 5 rfl rfl (by kernel_rfl) (ev_move rfl) ?_
  refine Dr.p 6 rfl rfl (by kernel_rfl) (ev_nil rfl) ?_
  refine Dr.p 7 rfl rfl (by kernel_rfl) (ev_field (off := 6) rfl rfl) ?_
  refine Dr.ld 8 rfl rfl (by kernel_rfl) (ev_load1 rfl rfl) (cellIs rfl) ?_
  refine Dr.p 9 rfl rfl (by kernel_rfl) (ev_nil rfl) ?_
  refine Dr.p 10 rfl rfl (by kernel_rfl) (ev_field (off := 2) rfl rfl) ?_
  refine Dr.p 11 rfl rfl (by kernel_rfl) (ev_ixAN (i := lv) (z := 64) (o' := 2 + 64 * lv) rfl rfl rfl rfl k1 (by omega)) ?_
  refine Dr.p 12 rfl rfl (by kernel_rfl) (ev_ixAN (i := st) (z := 1) (o' := 2 + k) rfl rfl rfl rfl k2 (by omega)) ?_
  refine Dr.p 13 rfl rfl (by kernel_rfl) (ev_assign rfl) ?_
  refine Dr.done (by kernel_rfl) ?_
  refine At.then ?_
  refine At.seq ?_
  refine Dr.start rfl ?_
  refine Dr.p 0 rfl rfl (by kernel_rfl) (ev_move rfl) ?_
  refine Dr.p 1 rfl rfl (by kernel_rfl) (ev_nil rfl) ?_
  refine Dr.ld 2 rfl rfl (by kernel_rfl) (ev_load1 (v := .slice A (S.bs k).length c) rfl rfl) (cellIs (by rw [wcell_atS _ _ _ _ _ k3, hA])) ?_
  refine Dr.p 3 rfl rfl (by kernel_rfl) (ev_move rfl) ?_
  refine Dr.p 4 rfl rfl (by kernel_rfl) (ev_nil rfl) ?_
  refine Dr.p 5 rfl rfl (by kernel_rfl) (ev_field (off := 4) rfl rfl) ?_
  refine Dr.ld 6 rfl rfl (by kernel_rfl) (ev_load1 rfl rfl) (cellIs rfl) ?_
  refine Dr.run 7 rfl rfl (by kernel_rfl) (o_call rfl rfl rfl hE (search_end hbel (by omega) hsl) (Ent.sel2 (.tail (.head)) (.tail (.tail (.head)))) ?_)
  rintro v m ⟨rfl, rfl⟩
  refine At.app2 ?_
  refine Dr.kept [false, false] (by kernel_rfl) Kept.nil ?_
  refine Dr.p 8 rfl rfl (by kernel_rfl) (ev_move rfl) ?_
  refine Dr.p 9 rfl rfl (by kernel_rfl) (ev_extract rfl rfl) ?_
  refine Dr.p 10 rfl rfl (by kernel_rfl) (ev_extract rfl rfl) ?_
  refine Dr.p 11 rfl rfl (by kernel_rfl) (ev_assign rfl) ?_
  refine Dr.p 12 rfl rfl (by kernel_rfl) (ev_assign rfl) ?_
  refine Dr.done (by kernel_rfl) ?_
  refine At.then ?_
  refine At.seq ?_
  refine At.region ?_
  refine L.mv rfl rfl ?_
  refine L.mv rfl rfl ?_
  refine L.nc rfl rfl ?_
  refine L.val rfl (ev_load1 (v := .slice A (S.bs k).length c) rfl rfl) (cellIs (by rw [wcell_atS _ _ _ _ _ k3, hA])) ?_
  refine L.mv rfl rfl ?_
  refine L.mv rfl rfl ?_
  refine L.op rfl (o_slice1 rfl rfl rfl rfl rfl rfl fun g => ?_)
  refine L.op rfl (o_call rfl rfl rfl hE (insert_end hsl) (Ent.sel2 (.tail (.head)) .head) ?_)
  rintro v m ⟨⟨A', c', rfl⟩, rfl⟩
  refine At.app1 ?_
  refine L.nc rfl rfl ?_
  refine L.st rfl rfl rfl rfl (by rw [wcN_size]; omega) ?_
  rw [wc_set, wcell_slot _ _ _ _ _ k3]
  refine L.nil ?_
  refine At.then ?_
  refine Dr.start rfl ?_
  refine Dr.p 0 rfl rfl (by kernel_rfl) (ev_move rfl) ?_
  refine Dr.p 1 rfl rfl (by kernel_rfl) (ev_move rfl) ?_
  refine Dr.p 2 rfl rfl (by kernel_rfl) (ev_nil rfl) ?_
  refine Dr.p 3 rfl rfl (by kernel_rfl) (ev_field (off := 5) rfl rfl) ?_
  refine Dr.ld 4 rfl rfl (by kernel_rfl) (ev_load1 rfl rfl) (cellIs rfl) ?_
  refine Dr.p 5 rfl rfl (by kernel_rfl) (ev_nil rfl) ?_
  refine Dr.p 6 rfl rfl (by kernel_rfl) (ev_field (off := 706) rfl rfl) ?_
  refine Dr.p 7 rfl rfl (by kernel_rfl) (ev_ixAN (i := lv) (z := 1) (o' := 706 + lv) rfl rfl rfl rfl k1 (by omega)) ?_
  refine Dr.ld 8 rfl rfl (by kernel_rfl) (ev_load1 rfl rfl) (cellIs (wcell_atU _ _ _ _ _ k1)) ?_
  refine Dr.p 9 rfl rfl (by kernel_rfl) (ev_move rfl) ?_
  refine Dr.p 10 rfl rfl (by kernel_rfl) (ev_nil rfl) ?_
  refine Dr.p 11 rfl rfl (by kernel_rfl) (ev_field (off := 6) rfl rfl) ?_
  refine Dr.ld 12 rfl rfl (by kernel_rfl) (ev_load1 rfl rfl) (cellIs rfl) ?_
  refine Dr.p 13 rfl rfl (by kernel_rfl) (ev_shl (r := ((2 ^ st : Nat) : Int)) rfl rfl (by omega) (shl_one k2)) ?_
  refine Dr.p 14 rfl rfl (by kernel_rfl) (ev_or (r := ((S.us lv ||| 2 ^ st : Nat) : Int)) rfl rfl (or_nat hus hp2)) ?_
  refine Dr.p 15 rfl rfl (by kernel_rfl) (ev_nil rfl) ?_
  refine Dr.p 16 rfl rfl (by kernel_rfl) (ev_field (off := 706) rfl rfl) ?_
  refine Dr.p 17 rfl rfl (by kernel_rfl) (ev_ixAN (i := lv) (z := 1) (o' := 706 + lv) rfl rfl rfl rfl k1 (by omega)) ?_
  refine Dr.run 18 rfl rfl (by kernel_rfl) (o_store1 rfl rfl rfl rfl rfl (by rw [wcN_size]; omega) ?_)
  rw [wc_set, wcell_used _ _ _ _ _ k1]
  refine Dr.kept [false, false, false] (by kernel_rfl) Kept.nil ?_
  refine Dr.done (by kernel_rfl) ?_
  rw [hput]
  refine At.end0 [_] rfl ⟨rfl, rfl⟩ ?_
  rw [hby]
  refine (Ent.sel2 (.tail (.head)) (.tail (.tail (.tail (.head))))).trans ((slots_close k3).trans ?_)
  refine (Ent.sel2 (p := tmBlk { t with lvl := lv, slot := st }) (.tail (.tail (.tail (.head)))) (.tail (.tail (.head)))).trans (tmrs_close.trans ?_)
  exact (Ent.sel2 (.tail (.tail (.head))) (.tail (.head))).trans (Ent.closeWheel (S := { S with us := upd S.us lv (S.us lv ||| 2 ^ st), bs := upd S.bs k (S.bs k ++ [t.blk]), tms := a ++ { t with lvl := lv, slot := st } :: b }) (sl := upd sl k _) (mp := mp))
def IsFirst (us : Nat → Nat) (v : Value) : Prop :=
  ∃ (l s : Nat) (any : Bool), v = .tuple #[.int .i64 (l : Int), .int .i64 (s : Int), .bool any] ∧
    (any = true → l < 11 ∧ s < 64 ∧ (us l).testBit s = true ∧ (∀ j, j < s → (us l).testBit j = false) ∧ ∀ k, k < l → us k = 0) ∧ (any = false → ∀ k, k < 11 → us k = 0)
def usV (us : Nat → Nat) : List Value := (List.range 11).map fun l => .int .u64 (us l)
theorem usV_at (us : Nat → Nat) {l : Nat} (h : l < 11) : (usV us)[l]? = some (.int .u64 (us l)) := by simp [usV, h]
theorem usV_lt (us : Nat → Nat) {l : Nat} {v : Value} (h : (usV us)[l]? = some v) : l < 11 := by
  have := (List.getElem?_eq_some_iff.1 h).1
  simpa [usV] using this
set_option maxRecDepth 10000 in
set_option maxHeartbeats 1000000 in
theorem first_does (w now seq : Nat) (sl : Nat → Value) (us : Nat → Nat) (mp : Nat) (hus : ∀ l, l < 11 → us l < 18446744073709551616) :
    Does Tryz.prog Good 260 [ptr w].toArray [blk w 337 (wc (wcell now seq sl us mp))] fun v m => IsFirst us v ∧ m = [blk w 337 (wc (wcell now seq sl us mp))] := by
  refine Does.body Tryz.func260 rfl rfl fun E fr hE => ?_
  refine At.app1 ?_
  refine At.seq ?_
  refine At.region ?_
  refine L.as rfl rfl ?_
  refine L.as rfl rfl ?_
  refine L.as rfl rfl ?_
  refine L.nil ?_
  refine At.then ?_
  refine At.seq ?_
  refine At.seq ?_
  refine At.region ?_
  refine L.mv rfl rfl ?_
  refine L.nc rfl rfl ?_
  refine L.fa 706 rfl rfl rfl ?_
  refine L.val rfl (ev_loadN (n := 11) (vs := usV us) rfl rfl (by simp [usV]) rfl) (rowIs (fun j v hj => by have hl := usV_lt us hj; rw [usV_at us hl] at hj; injection hj with hj; subst hj; exact wcell_atU _ _ _ _ _ hl)) ?_
  refine L.mv rfl rfl ?_
  refine L.nil ?_
  refine At.then ?_
  refine At.block ?_
  refine At.loop (X := Nat) (fun i => [(11, .int .i64 i), (10, .agg (usV us).toArray), (0, ptr w)]) (fun _ => blk w 337 (wc (wcell now seq sl us mp)) :: fr) (fun i => i ≤ 11 ∧ ∀ k, k < i → us k = 0) (fun i => 11 - i) 0 ⟨by omega, by simp⟩ ⟨rfl, rfl, rfl, trivial⟩ (Ent.refl _) ?_
  rintro i ⟨hi, hno⟩
  refine At.seq ?_
  refine At.region ?_
  refine L.pure rfl (ev_lss rfl rfl rfl) ?_
  refine L.nil ?_
  refine At.then ?_
  refine At.seq ?_
  refine At.condD rfl (fun c12 => ?_) (fun c12 => ?_)
  ·
    have hlt : i < 11 := by omega
    have hui := hus i hlt
    refine At.skip ?_
    refine At.then ?_
    refine At.seq ?_
    refine At.block ?_
    refine At.seq ?_
    refine At.region ?_
    refine L.mv rfl rfl ?_
    refine L.pure rfl (ev_index (v := .int .u64 (us i)) rfl rfl rfl rfl rfl hlt (by simpa using usV_at us hlt)) ?_
    refine L.as rfl rfl ?_
    refine L.as rfl rfl ?_
    refine L.nil ?_
    refine At.then ?_
    refine At.seq ?_
    refine At.region ?_
    refine L.mv rfl rfl ?_
    refine L.pure rfl (ev_neq rfl rfl rfl) ?_
    refine L.nil ?_
    refine At.then ?_
    refine At.condD rfl (fun c16 => ?_) (fun c16 => ?_)
    ·
      have hne : us i ≠ 0 := by omega
      have hlow := ctz_low (us i) hui hne
      refine At.seq ?_
      refine At.region ?_
      refine L.mv rfl rfl ?_
      refine L.mv rfl rfl ?_
      refine L.op rfl (o_read rfl rfl rfl (fun w hw => (tz64_calls (us i) hui hne w (hE.tab w hw.is)).mono fun e w' ⟨he, hw'⟩ => ⟨_, he, (rfl : _ = Value.int .i64 ((Lib.ctz 64 (us i) : Nat) : Int)), hw' ▸ Below.refl _ _⟩) ?_)
      rintro v rfl
      refine L.as rfl rfl ?_
      refine L.as rfl rfl ?_
      refine L.as rfl rfl ?_
      refine L.nil ?_
      refine At.then ?_
      refine At.ret ?_
      refine At.inBlockRet (At.thenRet (At.roundRet (At.inBlockRet (At.thenRet ?_))))
      exact At.ret3 [_] rfl rfl rfl rfl ⟨⟨i, _, true, rfl, (fun _ => ⟨hlt, hlow.2.2, hlow.1, hlow.2.1, hno⟩), (fun h => by cases h)⟩, rfl⟩ (Ent.refl _)
    ·
      refine At.skip ?_
      refine At.inBlock (At.then ?_)
      refine At.region ?_
      refine L.pure rfl (ev_add rfl rfl (w64 (by omega))) ?_
      refine L.mv rfl rfl ?_
      refine L.nil ?_
      exact At.round (i + 1) ⟨by omega, fun k hk => by rcases Nat.lt_or_ge k i with h | h; exact hno k h; obtain rfl : k = i := (by omega); omega⟩ (by omega) ⟨rfl, rfl, rfl, trivial⟩ (Ent.refl _)
  ·
    refine At.exit ?_
    refine At.thenExit (At.roundExit (At.inBlockHit (At.then ?_)))
    refine At.seq ?_
    refine At.region ?_
    refine L.as rfl rfl ?_
    refine L.as rfl rfl ?_
    refine L.as rfl rfl ?_
    refine L.nil ?_
    refine At.then ?_
    refine At.ret ?_
    exact At.ret3 [_] rfl rfl rfl rfl ⟨⟨0, 0, false, rfl, (fun h => by cases h), fun _ k hk => hno k (by omega)⟩, rfl⟩ (Ent.refl _)
end Go.Proofs.YtmeegfamopaljaaGreatDoor

namespace Go.Proofs.YtmeegfamopaljaaGreatDoor
open Go Go.RowKit Go.SL
open FK (upd upd_at upd_off)
theorem plKey : KeyK Tryz.prog 268 FK.Pl plV :=
  keyRec (arr := plA) (by kernel_rfl) (by kernel_rfl) (fun a => by cases a; kernel_rfl) (fun a b => by cases a; cases b; kernel_rfl) (fun a b => by rw [Bool.eq_iff_iff, FK.Pl.beq_iff, FK.Pl.beq_iff]; exact eq_comm) (fun a b h => (FK.Pl.beq_iff a b).1 h) (fun a => by simp [Instr.sameBits, plA])
abbrev plL (p : FK.Pl) : List Value := [.int .u64 p.run, .int .i64 p.node, .int .i64 p.what]
theorem by_some {a b : List FK.Tmr} {t : FK.Tmr} (h : ((a ++ t :: b).map FK.Tmr.key).Nodup) : vassoc (byOf (a ++ t :: b)) t.key = some (ptr t.blk) := by
  have ha := (FK.nodup_mid h).1
  unfold vassoc byOf
  rw [List.map_append, List.find?_append]
  have : (a.map fun t => (t.key, ptr t.blk)).find? (·.1 == t.key) = none := by
    rw [List.find?_eq_none]
    intro p hp
    obtain ⟨u, hu, rfl⟩ := List.mem_map.1 hp
    simpa using ha u hu
  rw [this]
  simp
theorem by_none {l : List FK.Tmr} {k : FK.Pl} (h : k ∉ l.map FK.Tmr.key) : vassoc (byOf l) k = none := by
  unfold vassoc byOf
  rw [Option.map_eq_none_iff, List.find?_eq_none]
  intro p hp
  obtain ⟨u, hu, rfl⟩ := List.mem_map.1 hp
  have : u.key ≠ k := fun e => h (e ▸ List.mem_map_of_mem hu)
  simpa using this
theorem by_del {a b : List FK.Tmr} {t : FK.Tmr} (h : ((a ++ t :: b).map FK.Tmr.key).Nodup) : (byOf (a ++ t :: b)).eraseP (·.1 == t.key) = byOf (a ++ b) := by
  have ha := (FK.nodup_mid h).1
  unfold byOf
  rw [List.map_append, List.map_append, List.eraseP_append_right, List.map_cons, List.eraseP_cons_of_pos]
  · simp
  · intro p hp
    obtain ⟨u, hu, rfl⟩ := List.mem_map.1 hp
    simpa using ha u hu
theorem erase_nodup : ∀ {l : List Nat} {i x : Nat}, l.Nodup → l[i]? = some x → l.erase x = l.eraseIdx i
  | [], _, _, _, h => by simp at h
  | y :: l, 0, x, _, h => by
    simp at h; subst h
    simp
  | y :: l, i + 1, x, hn, h => by
    rw [List.nodup_cons] at hn
    have hm : x ∈ l := List.mem_of_getElem? (by simpa using h)
    have hyx : (y == x) = false := by
      simp only [beq_eq_false_iff_ne]
      rintro rfl
      exact hn.1 hm
    rw [List.erase_cons_tail (by simp [hyx]), List.eraseIdx_cons_succ, erase_nodup hn.2 (by simpa using h)]
theorem slot_nodup {S : FK.WS} {un : List Nat} (h : FK.Inv S un) {i : Nat} (hi : i < 704) : (S.bs i).Nodup := by
  rw [h.slot i hi]
  exact h.blks.sublist (List.filter_sublist.map _)
set_option maxRecDepth 10000 in
theorem drop_none {G : Env → Prop} {S : FK.WS} (w : Nat) (k : FK.Pl) (hk : k ∉ S.tms.map FK.Tmr.key) :
    Does Tryz.prog G 202 [ptr w, plV k].toArray [wheelAt w S] fun v m => v = .tuple #[] ∧ m = [wheelAt w S] := by
  refine Does.body Tryz.func202 rfl rfl fun E fr hE => ?_
  refine At.app1 ?_
  refine At.openWheel .head fun sl mp => ?_
  refine At.seq ?_
  refine At.region ?_
  refine L.op rfl (o_box rfl rfl fun b3 => ?_)
  refine L.nil ?_
  refine At.then ?_
  refine At.seq ?_
  refine Dr.start rfl ?_
  refine Dr.p 0 rfl rfl (by kernel_rfl) (ev_move rfl) ?_
  refine Dr.p 1 rfl rfl (by kernel_rfl) (ev_nil rfl) ?_
  refine Dr.p 2 rfl rfl (by kernel_rfl) (ev_field (off := 717) rfl rfl) ?_
  refine Dr.ld 3 rfl rfl (by kernel_rfl) (ev_load1 rfl rfl) (cellIs (wcell_atM _ _ _ _ _)) ?_
  refine Dr.ld 4 rfl rfl (by kernel_rfl) (ev_loadN (vs := plL k) rfl rfl rfl rfl) (rowAll rfl) ?_
  refine Dr.ld 5 rfl rfl (by kernel_rfl) (ev_vlookN (m := byOf S.tms) rfl plKey rfl rfl rfl (by_none hk)) (vmapIs (.tail (.tail (.tail (.tail (.head)))))) ?_
  refine Dr.p 6 rfl rfl (by kernel_rfl) (ev_move rfl) ?_
  refine Dr.p 7 rfl rfl (by kernel_rfl) (ev_extract rfl rfl) ?_
  refine Dr.p 8 rfl rfl (by kernel_rfl) (ev_extract rfl rfl) ?_
  refine Dr.run 9 rfl rfl (by kernel_rfl) (o_alloc (z := .pointer none) rfl rfl fun b4 => ?_)
  refine Dr.kept [true, true, true] (by kernel_rfl) (Kept.cons (vmapIs (.tail (.tail (.tail (.tail (.tail (.head))))))) (Kept.cons (rowAll rfl) (Kept.cons (cellIs (wcell_atM _ _ _ _ _)) Kept.nil))) ?_
  refine Dr.run 10 rfl rfl (by kernel_rfl) (o_store1 rfl rfl rfl rfl rfl (by first | decide | simp | (simp; omega)) ?_)
  refine Dr.kept [false, false, false] (by kernel_rfl) Kept.nil ?_
  refine Dr.p 11 rfl rfl (by kernel_rfl) (ev_assign rfl) ?_
  refine Dr.done (by kernel_rfl) ?_
  refine At.then ?_
  refine At.seq ?_
  refine At.seq ?_
  refine At.region ?_
  refine L.mv rfl rfl ?_
  refine L.pure rfl (ev_not rfl rfl) ?_
  refine L.nil ?_
  refine At.then ?_
  refine At.condT rfl ?_
  refine At.ret ?_
  refine At.thenRet ?_
  exact At.ret0 [_] rfl ⟨rfl, rfl⟩ (Ent.drop.trans (Ent.drop.trans (Ent.closeWheel (S := S) (sl := sl) (mp := mp))))
set_option maxRecDepth 10000 in
set_option maxHeartbeats 1000000 in
theorem drop_some {G : Env → Prop} {S : FK.WS} {a b : List FK.Tmr} {t : FK.Tmr} (w : Nat) (h : FK.Inv S []) (hS : S.tms = a ++ t :: b) (hln : S.tms.length ≤ 99999) :
    Does Tryz.prog G 202 [ptr w, plV t.key].toArray [wheelAt w S] fun v m => v = .tuple #[] ∧ m = [wheelAt w (S.drop a t b), tmBlk t] := by
  have htm : t ∈ S.tms := by rw [hS]; simp
  obtain ⟨k1, k2⟩ := h.lvl' htm (by simp)
  have k3 := h.pos htm (by simp)
  obtain ⟨k, hk⟩ : ∃ k, k = t.pos := ⟨_, rfl⟩
  have hkl : k = 64 * t.lvl + t.slot := hk
  have hin : t.blk ∈ S.bs k := by rw [hk]; exact h.mem_slot htm (by simp)
  rw [← hk] at k3
  have hus := h.uslt t.lvl k1
  have hsl := slot_len h (by omega) k3
  have hnd := slot_nodup h k3
  obtain ⟨i, hil, hi⟩ := List.getElem_of_mem hin
  have hi? : (S.bs k)[i]? = some t.blk := by rw [List.getElem?_eq_getElem hil, hi]
  have hne : ∀ j, j ≠ i → (S.bs k)[j]? ≠ some t.blk := fun j hj e => by
    obtain ⟨hjl, hje⟩ := List.getElem?_eq_some_iff.1 e
    exact hj ((List.getElem_inj hnd).1 (hje.trans hi.symm))
  have her : (S.bs k).erase t.blk = (S.bs k).eraseIdx i := by
    exact erase_nodup hnd hi?
  have hbl : Blks (tmrs S.tms) (S.bs k) := tmrs_blks fun x hx => by
    obtain ⟨u, hu, e, _⟩ := h.of_slot k3 hx
    exact ⟨u, hu, e⟩
  have hp2 : (2 : Nat) ^ t.slot < 18446744073709551616 := Nat.pow_lt_pow_right (a := 2) (m := t.slot) (n := 64) (by omega) k2
  have hkeys := h.keys
  rw [hS] at hkeys
  refine Does.body Tryz.func202 rfl rfl fun E fr hE => ?_
  refine At.app1 ?_
  refine At.openWheel .head fun sl mp => ?_
  refine At.ent (l' := ptrsAt (sl k) (S.bs k) :: slotsBut sl S.bs k :: whl w S sl mp :: tmrs S.tms :: vmap plV mp (byOf (a ++ t :: b)) :: fr) ?_ ?_
  · refine (Ent.perm (List.Perm.swap _ _ _)).trans ((slots_open k3).trans (Ent.cons (Ent.cons ?_)))
    rw [← hS]
    exact Ent.refl _
  refine At.formRow .head ?_
  intro A c hA hnil hform hc1 hc2 _
  rw [hA]
  refine At.seq ?_
  refine At.region ?_
  refine L.op rfl (o_box rfl rfl fun b3 => ?_)
  refine L.nil ?_
  refine At.then ?_
  refine At.seq ?_
  refine Dr.start rfl ?_
  refine Dr.p 0 rfl rfl (by kernel_rfl) (ev_move rfl) ?_
  refine Dr.p 1 rfl rfl (by kernel_rfl) (ev_nil rfl) ?_
  refine Dr.p 2 rfl rfl (by kernel_rfl) (ev_field (off := 717) rfl rfl) ?_
  refine Dr.ld 3 rfl rfl (by kernel_rfl) (ev_load1 rfl rfl) (cellIs (wcell_atM _ _ _ _ _)) ?_
  refine Dr.ld 4 rfl rfl (by kernel_rfl) (ev_loadN (vs := plL t.key) rfl rfl rfl rfl) (rowAll rfl) ?_
  refine Dr.ld 5 rfl rfl (by kernel_rfl) (ev_vlookY rfl plKey rfl rfl (by_some hkeys)) (vmapIs (.tail (.tail (.tail (.tail (.tail (.head))))))) ?_
  refine Dr.p 6 rfl rfl (by kernel_rfl) (ev_move rfl) ?_
  refine Dr.p 7 rfl rfl (by kernel_rfl) (ev_extract rfl rfl) ?_
  refine Dr.p 8 rfl rfl (by kernel_rfl) (ev_extract rfl rfl) ?_
  refine Dr.run 9 rfl rfl (by kernel_rfl) (o_alloc (z := .pointer none) rfl rfl fun b4 => ?_)
  refine Dr.kept [true, true, true] (by kernel_rfl) (Kept.cons (vmapIs (.tail (.tail (.tail (.tail (.tail (.tail (.head)))))))) (Kept.cons (rowAll rfl) (Kept.cons (cellIs (wcell_atM _ _ _ _ _)) Kept.nil))) ?_
  refine Dr.run 10 rfl rfl (by kernel_rfl) (o_store1 rfl rfl rfl rfl rfl (by first | decide | simp | (simp; omega)) ?_)
  refine Dr.kept [false, false, false] (by kernel_rfl) Kept.nil ?_
  refine Dr.p 11 rfl rfl (by kernel_rfl) (ev_assign rfl) ?_
  refine Dr.done (by kernel_rfl) ?_
  refine At.then ?_
  refine At.seq ?_
  refine At.seq ?_
  refine At.region ?_
  refine L.mv rfl rfl ?_
  refine L.pure rfl (ev_not rfl rfl) ?_
  refine L.nil ?_
  refine At.then ?_
  refine At.condF rfl ?_
  refine At.skip ?_
  refine At.then ?_
  refine At.seq ?_
  refine Dr.start rfl ?_
  refine Dr.p 0 rfl rfl (by kernel_rfl) (ev_move rfl) ?_
  refine Dr.p 1 rfl rfl (by kernel_rfl) (ev_nil rfl) ?_
  refine Dr.p 2 rfl rfl (by kernel_rfl) (ev_field (off := 717) rfl rfl) ?_
  refine Dr.ld 3 rfl rfl (by kernel_rfl) (ev_load1 rfl rfl) (cellIs (wcell_atM _ _ _ _ _)) ?_
  refine Dr.ld 4 rfl rfl (by kernel_rfl) (ev_loadN (vs := plL t.key) rfl rfl rfl rfl) (rowAll rfl) ?_
  refine Dr.run 5 rfl rfl (by kernel_rfl) (o_vdel rfl rfl plKey rfl rfl (.tail (.tail (.tail (.tail (.tail (.tail (.head))))))) ?_)
  rw [by_del hkeys]
  refine Dr.kept [false, false] (by kernel_rfl) Kept.nil ?_
  refine Dr.done (by kernel_rfl) ?_
  refine At.then ?_
  refine At.seq ?_
  refine Dr.start rfl ?_
  refine Dr.p 0 rfl rfl (by kernel_rfl) (ev_move rfl) ?_
  refine Dr.ld 1 rfl rfl (by kernel_rfl) (ev_load1 rfl rfl) (cellIs rfl) ?_
  refine Dr.p 2 rfl rfl (by kernel_rfl) (ev_nil rfl) ?_
  refine Dr.p 3 rfl rfl (by kernel_rfl) (ev_field (off := 5) rfl rfl) ?_
  refine Dr.ld 4 rfl rfl (by kernel_rfl) (ev_load1 rfl rfl) (tmCell (.tail (.tail (.tail (.tail (.tail (.tail (.head))))))) htm rfl) ?_
  refine Dr.ld 5 rfl rfl (by kernel_rfl) (ev_load1 rfl rfl) (cellIs rfl) ?_
  refine Dr.p 6 rfl rfl (by kernel_rfl) (ev_nil rfl) ?_
  refine Dr.p 7 rfl rfl (by kernel_rfl) (ev_field (off := 6) rfl rfl) ?_
  refine Dr.ld 8 rfl rfl (by kernel_rfl) (ev_load1 rfl rfl) (tmCell (.tail (.tail (.tail (.tail (.tail (.tail (.head))))))) htm rfl) ?_
  refine Dr.p 9 rfl rfl (by kernel_rfl) (ev_nil rfl) ?_
  refine Dr.p 10 rfl rfl (by kernel_rfl) (ev_field (off := 2) rfl rfl) ?_
  refine Dr.p 11 rfl rfl (by kernel_rfl) (ev_ixAN (i := t.lvl) (z := 64) (o' := 2 + 64 * t.lvl) rfl rfl rfl rfl k1 (by omega)) ?_
  refine Dr.p 12 rfl rfl (by kernel_rfl) (ev_ixAN (i := t.slot) (z := 1) (o' := 2 + k) rfl rfl rfl rfl k2 (by omega)) ?_
  refine Dr.p 13 rfl rfl (by kernel_rfl) (ev_assign rfl) ?_
  refine Dr.done (by kernel_rfl) ?_
  refine At.then ?_
  refine At.seq ?_
  refine At.region ?_
  refine L.mv rfl rfl ?_
  refine L.mv rfl rfl ?_
  refine L.nc rfl rfl ?_
  refine L.val rfl (ev_load1 (v := .slice A (S.bs k).length c) rfl rfl) (cellIs (by rw [wcell_atS _ _ _ _ _ k3, hA])) ?_
  refine L.pure rfl (ev_func rfl rfl) ?_
  refine L.op rfl (o_call rfl rfl rfl hE (delete_one hbl hi? hne hsl) (Ent.sel3 (.tail (.tail (.tail (.head)))) (.tail (.head)) (.tail (.tail (.tail (.tail (.head)))))) ?_)
  rintro v m ⟨⟨A', c', rfl⟩, rfl⟩
  refine At.app3 ?_
  refine L.nc rfl rfl ?_
  refine L.st rfl rfl rfl rfl (by rw [wcN_size]; omega) ?_
  rw [wc_set, wcell_slot _ _ _ _ _ k3]
  refine L.nil ?_
  refine At.then ?_
  refine At.seq ?_
  refine At.region ?_
  refine L.mv rfl rfl ?_
  refine L.nc rfl rfl ?_
  refine L.val rfl (ev_load1 (v := .slice A' ((S.bs k).eraseIdx i).length c') rfl rfl) (cellIs (by rw [wcell_atS _ _ _ _ _ k3, upd_at])) ?_
  refine L.pure rfl (ev_lenS rfl rfl) ?_
  refine L.pure rfl (ev_eql rfl rfl rfl) ?_
  refine L.nil ?_
  refine At.then ?_
  refine At.condD rfl (fun c47 => ?_) (fun c47 => ?_)
  ·
    have he : (S.bs k).eraseIdx i = [] := List.eq_nil_of_length_eq_zero (by omega)
    have hdrop : S.drop a t b = { S with us := upd S.us t.lvl (FK.clr (S.us t.lvl) t.slot), bs := upd S.bs k ((S.bs k).eraseIdx i), tms := a ++ b } := by
      unfold FK.WS.drop
      rw [← hk, her, if_pos he]
    refine Dr.start rfl ?_
    refine Dr.p 0 rfl rfl (by kernel_rfl) (ev_move rfl) ?_
    refine Dr.ld 1 rfl rfl (by kernel_rfl) (ev_load1 rfl rfl) (cellIs rfl) ?_
    refine Dr.p 2 rfl rfl (by kernel_rfl) (ev_nil rfl) ?_
    refine Dr.p 3 rfl rfl (by kernel_rfl) (ev_field (off := 5) rfl rfl) ?_
    refine Dr.ld 4 rfl rfl (by kernel_rfl) (ev_load1 rfl rfl) (tmCell (.tail (.tail (.tail (.head)))) htm rfl) ?_
    refine Dr.p 5 rfl rfl (by kernel_rfl) (ev_nil rfl) ?_
    refine Dr.p 6 rfl rfl (by kernel_rfl) (ev_field (off := 706) rfl rfl) ?_
    refine Dr.p 7 rfl rfl (by kernel_rfl) (ev_ixAN (i := t.lvl) (z := 1) (o' := 706 + t.lvl) rfl rfl rfl rfl k1 (by omega)) ?_
    refine Dr.ld 8 rfl rfl (by kernel_rfl) (ev_load1 rfl rfl) (cellIs (wcell_atU _ _ _ _ _ k1)) ?_
    refine Dr.ld 9 rfl rfl (by kernel_rfl) (ev_load1 rfl rfl) (cellIs rfl) ?_
    refine Dr.p 10 rfl rfl (by kernel_rfl) (ev_nil rfl) ?_
    refine Dr.p 11 rfl rfl (by kernel_rfl) (ev_field (off := 6) rfl rfl) ?_
    refine Dr.ld 12 rfl rfl (by kernel_rfl) (ev_load1 rfl rfl) (tmCell (.tail (.tail (.tail (.head)))) htm rfl) ?_
    refine Dr.p 13 rfl rfl (by kernel_rfl) (ev_shl (r := ((2 ^ t.slot : Nat) : Int)) rfl rfl (by omega) (shl_one k2)) ?_
    refine Dr.p 14 rfl rfl (by kernel_rfl) (ev_andNot (r := ((FK.clr (S.us t.lvl) t.slot : Nat) : Int)) rfl rfl (clr_nat hus k2)) ?_
    refine Dr.p 15 rfl rfl (by kernel_rfl) (ev_nil rfl) ?_
    refine Dr.p 16 rfl rfl (by kernel_rfl) (ev_field (off := 706) rfl rfl) ?_
    refine Dr.p 17 rfl rfl (by kernel_rfl) (ev_ixAN (i := t.lvl) (z := 1) (o' := 706 + t.lvl) rfl rfl rfl rfl k1 (by omega)) ?_
    refine Dr.run 18 rfl rfl (by kernel_rfl) (o_store1 rfl rfl rfl rfl rfl (by rw [wcN_size]; omega) ?_)
    rw [wc_set, wcell_used _ _ _ _ _ k1]
    refine Dr.kept [false, false, false, false, false] (by kernel_rfl) Kept.nil ?_
    refine Dr.done (by kernel_rfl) ?_
    rw [hdrop]
    refine At.end0 [_, _] rfl ⟨rfl, rfl⟩ ?_
    rw [hS]
    refine ((Ent.drop1 (.tail (.tail (.head)))).trans (Ent.drop1 (.tail (.tail (.tail (.tail (.head))))))).trans ((Ent.sel2 (.tail (.head)) (.tail (.tail (.tail (.head))))).trans ((slots_close k3).trans ?_))
    refine (Ent.sel (.tail (.tail (.head)))).trans (tmrs_open.trans ?_)
    exact ((Ent.sel3 (.tail (.tail (.tail (.head)))) (.tail (.tail (.head))) (.tail (.head))).trans (Ent.cons (Ent.cons (Ent.cons (Ent.perm (List.Perm.swap _ _ _)))))).trans (Ent.closeWheel (S := { S with us := upd S.us t.lvl (FK.clr (S.us t.lvl) t.slot), bs := upd S.bs k ((S.bs k).eraseIdx i), tms := a ++ b }) (sl := upd sl k _) (mp := mp))
  ·
    have he : ¬ (S.bs k).eraseIdx i = [] := fun e => c47 (by rw [e]; rfl)
    have hdrop : S.drop a t b = { S with us := S.us, bs := upd S.bs k ((S.bs k).eraseIdx i), tms := a ++ b } := by
      unfold FK.WS.drop
      rw [← hk, her, if_neg he]
    refine At.skip ?_
    rw [hdrop]
    refine At.end0 [_, _] rfl ⟨rfl, rfl⟩ ?_
    rw [hS]
    refine ((Ent.drop1 (.tail (.tail (.head)))).trans (Ent.drop1 (.tail (.tail (.tail (.tail (.head))))))).trans ((Ent.sel2 (.tail (.head)) (.tail (.tail (.tail (.head))))).trans ((slots_close k3).trans ?_))
    refine (Ent.sel (.tail (.tail (.head)))).trans (tmrs_open.trans ?_)
    exact ((Ent.sel3 (.tail (.tail (.tail (.head)))) (.tail (.tail (.head))) (.tail (.head))).trans (Ent.cons (Ent.cons (Ent.cons (Ent.perm (List.Perm.swap _ _ _)))))).trans (Ent.closeWheel (S := { S with us := S.us, bs := upd S.bs k ((S.bs k).eraseIdx i), tms := a ++ b }) (sl := upd sl k _) (mp := mp))
end Go.Proofs.YtmeegfamopaljaaGreatDoor

namespace Go.Proofs.YtmeegfamopaljaaGreatDoor
open Go Go.RowKit Go.SL
open FK (upd upd_at upd_off)
theorem shr_lv {x l : Nat} (hx : x ≤ 4611686018427387904) (hl : l < 11) : ((x : Int)).fdiv (2 ^ min (((6 * (l + 1) : Nat) : Int)).toNat IntKind.u64.bits) = ((x / 64 ^ (l + 1) : Nat) : Int) := by
  rw [FK.pow64]
  by_cases h : 6 * (l + 1) ≤ 64
  · exact shr_nat x _ (by omega) h
  · obtain rfl : l = 10 := by omega
    have h1 : min (((6 * (10 + 1) : Nat) : Int)).toNat IntKind.u64.bits = 64 := rfl
    rw [h1, Int.fdiv_eq_ediv_of_nonneg _ (Int.le_of_lt (Int.pow_pos (by omega)))]
    have h2 : x / 2 ^ (6 * (10 + 1)) = 0 := Nat.div_eq_of_lt (by omega)
    rw [h2]
    omega
theorem shl_lv {x l : Nat} (hx : x ≤ 4611686018427387904) (hl : l < 11) : IntKind.u64.wrap (((x / 64 ^ (l + 1) : Nat) : Int) * 2 ^ min (((6 * (l + 1) : Nat) : Int)).toNat IntKind.u64.bits) = ((x / 64 ^ (l + 1) * 64 ^ (l + 1) : Nat) : Int) := by
  have hle := Nat.div_mul_le_self x (64 ^ (l + 1))
  by_cases h : 6 * (l + 1) ≤ 64
  · have h1 : min (((6 * (l + 1) : Nat) : Int)).toNat IntKind.u64.bits = 6 * (l + 1) := by
      show min (((6 * (l + 1) : Nat) : Int)).toNat 64 = _
      omega
    have h3 : ((x / 64 ^ (l + 1) : Nat) : Int) * 2 ^ (6 * (l + 1)) = ((x / 64 ^ (l + 1) * 64 ^ (l + 1) : Nat) : Int) := by
      rw [Int.natCast_mul, FK.pow64 (l + 1)]
      congr 1
    rw [h1, h3]
    exact wu64 (by omega)
  · obtain rfl : l = 10 := by omega
    have h2 : x / 64 ^ (10 + 1) = 0 := Nat.div_eq_of_lt (by omega)
    rw [h2]
    simp [mu64]
theorem shl_sl {s l : Nat} (hs : s * 64 ^ l ≤ 4611686018427387904) (hl : l < 11) : IntKind.u64.wrap ((s : Int) * 2 ^ min (((6 * l : Nat) : Int)).toNat IntKind.u64.bits) = ((s * 64 ^ l : Nat) : Int) := by
  have h1 : min (((6 * l : Nat) : Int)).toNat IntKind.u64.bits = 6 * l := by
    show min (((6 * l : Nat) : Int)).toNat 64 = _
    omega
  have h3 : (s : Int) * 2 ^ (6 * l) = ((s * 64 ^ l : Nat) : Int) := by
    rw [Int.natCast_mul, FK.pow64 l]
    congr 1
  rw [h1, h3]
  exact wu64 (by omega)
theorem or_start {x l s : Nat} (hs : s < 64) : x / 64 ^ (l + 1) * 64 ^ (l + 1) ||| s * 64 ^ l = FK.startOf x l s := by
  have h1 : s * 64 ^ l < 2 ^ (6 * (l + 1)) := by
    rw [← FK.pow64, Nat.pow_succ, Nat.mul_comm (64 ^ l)]
    exact Nat.mul_lt_mul_of_pos_right hs (Nat.pow_pos (by omega))
  unfold FK.startOf
  rw [FK.pow64 (l + 1), Nat.mul_comm (x / 2 ^ (6 * (l + 1)))]
  exact (Nat.two_pow_add_eq_or_of_lt h1 _).symm
theorem upd_self {α : Type} (f : Nat → α) (i : Nat) : upd f i (f i) = f := by
  funext j
  by_cases h : j = i
  · subst h; exact upd_at _ _ _
  · exact upd_off _ _ h
theorem slots_reclose {sl : Nat → Value} {bs : Nat → List Nat} {i : Nat} {v : Value} (hi : i < 704) (hv : sl i = v) {fr : List HP} : Ent (ptrsAt v (bs i) :: slotsBut sl bs i :: fr) (slots sl bs :: fr) := by
  have := slots_close (sl := sl) (bs := bs) (v := v) (b := bs i) (fr := fr) hi
  rwa [← hv, upd_self, upd_self, hv] at this
theorem key_row (t : FK.Tmr) : ∀ (j : Nat) (v : Value), (plL t.key)[j]? = some v → (#[Value.int .u64 t.key.run, .int .i64 t.key.node, .int .i64 t.key.what, .int .u64 t.due, .int .u64 t.seq, .int .i64 t.lvl, .int .i64 t.slot])[0 + 0 + j]? = some v := fun j v h => by
  rcases j with _ | _ | _ | j
  · exact h
  · exact h
  · exact h
  · simp at h
theorem tmKey {E : Env} {l : List FK.Tmr} {m r : List HP} {t : FK.Tmr} (s : Sel (tmrs l) m r) (ht : t ∈ l) : ∀ w, Holds E w m → RowIs t.blk (0 + 0) (plL t.key) w := fun w hw j v hj => by
  obtain ⟨F1, _, _, _, _, hp, _⟩ := (hw.sel s).star
  have := tmrs_mem hp ht
  simp only [World.cell?, this]
  simpa using key_row t j v hj
def PopR (w : Nat) (S : FK.WS) (up : Nat) (v : Value) (m : List HP) : Prop :=
  (∃ (S' : FK.WS) (x : FK.Pl × Nat), FK.IsMin (S.tms.map FK.kd) x (S'.tms.map FK.kd) ∧ x.2 ≤ up ∧ FK.Inv S' [] ∧ S'.now = x.2 ∧ S'.seq = S.seq ∧ v = .tuple #[plV x.1, .int .u64 x.2, .bool true] ∧ m = [wheelAt w S']) ∨
  (∃ S' : FK.WS, (∀ y ∈ S.tms.map FK.kd, up < y.2) ∧ S'.tms.map FK.kd = S.tms.map FK.kd ∧ FK.Inv S' [] ∧ S'.now = up ∧ S'.seq = S.seq ∧ v = .tuple #[plV ⟨0, 0, 0⟩, .int .u64 0, .bool false] ∧ m = [wheelAt w S'])
theorem kd_len {a b : List FK.Tmr} (h : a.map FK.kd = b.map FK.kd) : a.length = b.length := by
  have := congrArg List.length h
  simpa using this
theorem kd_put {S : FK.WS} {a b : List FK.Tmr} {t : FK.Tmr} (h : S.tms = a ++ t :: b) : (S.put a t b).tms.map FK.kd = S.tms.map FK.kd := by
  rw [h]
  simp [FK.WS.put, FK.kd, FK.Tmr.place]
set_option maxRecDepth 10000 in
set_option maxHeartbeats 4000000 in
theorem pop_does {S : FK.WS} (w up : Nat) (h : FK.Inv S []) (hto : S.now ≤ up) (hto62 : up ≤ 4611686018427387904) (hsq : S.seq < 9223372036854775808) (hln : S.tms.length ≤ 99999) :
    Does Tryz.prog Good 236 [ptr w, .int .u64 up].toArray [wheelAt w S] (PopR w S up) := by
  refine Does.body Tryz.func236 rfl rfl fun E fr hE => ?_
  refine At.app1 ?_
  refine At.seq ?_
  refine At.region ?_
  refine L.op rfl (o_alloc (z := plV ⟨0, 0, 0⟩) rfl rfl fun b4 => ?_)
  refine L.as rfl rfl ?_
  refine L.as rfl rfl ?_
  refine L.nil ?_
  refine At.then ?_
  refine At.seq ?_
  refine At.block ?_
  refine At.loop (X := FK.WS × Nat) (fun p => [(0, ptr w), (1, .int .u64 up), (4, ptr b4)]) (fun p => wheelAt w p.1 :: blk b4 268 (plA ⟨0, 0, 0⟩) :: fr) (fun p => FK.Inv p.1 [] ∧ p.1.now ≤ up ∧ p.1.seq = S.seq ∧ p.1.tms.map FK.kd = S.tms.map FK.kd ∧ (p.1.tms = [] ∨ ∃ t ∈ p.1.tms, t.lvl < p.2)) (fun p => p.2) (S, 11) ⟨h, hto, rfl, rfl, by
  cases hc : S.tms with
  | nil => exact .inl rfl
  | cons t l => exact .inr ⟨t, by simp, (h.lvl' (t := t) (by rw [hc]; simp) (by simp)).1⟩⟩ ⟨rfl, rfl, rfl, trivial⟩ (Ent.perm (List.Perm.swap _ _ _)) ?_
  rintro ⟨T, B⟩ ⟨hT, hTup, hTsq, hkd, hB⟩
  replace hT : FK.Inv T [] := hT
  replace hTup : T.now ≤ up := hTup
  replace hTsq : T.seq = S.seq := hTsq
  replace hkd : T.tms.map FK.kd = S.tms.map FK.kd := hkd
  have hTln : T.tms.length ≤ 99999 := by rw [kd_len hkd]; exact hln
  refine At.openWheel .head fun sl mp => ?_
  refine At.block ?_
  refine At.seq ?_
  refine At.region ?_
  refine L.mv rfl rfl ?_
  refine L.op rfl (o_call rfl rfl rfl hE (first_does w T.now T.seq sl T.us mp hT.uslt) (Ent.refl _) ?_)
  rintro v m ⟨⟨l, s, any, rfl, hany, hnone⟩, rfl⟩
  refine At.app1 ?_
  refine L.mv rfl rfl ?_
  refine L.ex rfl rfl rfl ?_
  refine L.ex rfl rfl rfl ?_
  refine L.ex rfl rfl rfl ?_
  refine L.as rfl rfl ?_
  refine L.as rfl rfl ?_
  refine L.as rfl rfl ?_
  refine L.nil ?_
  refine At.then ?_
  refine At.seq ?_
  refine At.seq ?_
  refine At.region ?_
  refine L.mv rfl rfl ?_
  refine L.pure rfl (ev_not rfl rfl) ?_
  refine L.nil ?_
  refine At.then ?_
  refine At.cond rfl (fun c23 => ?_) (fun c23 => ?_)
  ·
    have ha : any = false := by simpa using c23
    have hst := hT.stay hTup hto62 (.inl (hT.none (hnone ha)))
    refine At.exit ?_
    refine At.thenExit (At.inBlockMiss rfl (At.roundExit (At.inBlockHit (At.then ?_))))
    refine At.seq ?_
    refine At.region ?_
    refine L.mv rfl rfl ?_
    refine L.mv rfl rfl ?_
    refine L.nc rfl rfl ?_
    refine L.fa 0 rfl rfl rfl ?_
    refine L.val rfl (ev_load1 rfl rfl) (cellIs (wcell_at0 _ _ _ _ _)) ?_
    refine L.mv rfl rfl ?_
    refine L.pure rfl (ev_max (r := (up : Int)) rfl rfl (by omega)) ?_
    refine L.nc rfl rfl ?_
    refine L.fa 0 rfl rfl rfl ?_
    refine L.st rfl rfl rfl rfl (by rw [wcN_size]; omega) ?_
    rw [wc_set, wcell_now]
    refine L.nil ?_
    refine At.then ?_
    refine At.seq ?_
    refine At.region ?_
    refine L.val rfl (ev_loadN (vs := plL ⟨0, 0, 0⟩) rfl rfl rfl rfl) (rowAll rfl) ?_
    refine L.op rfl (o_storeN rfl (m := 3) rfl rfl rfl rfl (by simp [Value.oneCell']) (by first | decide | (simp [Value.cells]; done) | (simp [Value.cells]; omega)) ?_)
    refine L.as rfl rfl ?_
    refine L.as rfl rfl ?_
    refine L.nil ?_
    refine At.then ?_
    refine At.ret ?_
    skip
    have hall : ∀ y ∈ S.tms.map FK.kd, up < y.2 := fun y hy => by
      rw [← hkd] at hy
      obtain ⟨u, hu, rfl⟩ := List.mem_map.1 hy
      exact hst.2 u hu
    exact At.res3 [_] rfl (Res.cellN (vs := plL ⟨0, 0, 0⟩) rfl rfl rfl rfl (rowAll rfl)) (Res.tmp rfl) (Res.tmp rfl) (.inr ⟨{ T with now := up }, hall, hkd, hst.1, rfl, hTsq, rfl, rfl⟩) (Ent.drop.trans (Ent.closeWheel (S := { T with now := up }) (sl := sl) (mp := mp)))
  ·
    have ha : any = true := by simpa using c23
    obtain ⟨hl, hs, hb1, hb2, hb3⟩ := hany ha
    have hf : FK.Fst T l s := hT.fst hl hs hb1 hb2 hb3
    have hk7 : 64 * l + s < 704 := by omega
    obtain ⟨b0, hb0⟩ := List.exists_mem_of_ne_nil _ hf.has
    obtain ⟨u0, hu0, _⟩ := hT.of_slot hk7 hb0
    have hst62 : FK.startOf T.now l s ≤ 4611686018427387904 := Nat.le_trans (hf.start hT hu0) (hT.due u0 hu0).2
    have hs62 : s * 64 ^ l ≤ 4611686018427387904 := Nat.le_trans (Nat.le_add_left _ _) hst62
    have hq := Nat.div_mul_le_self T.now (64 ^ (l + 1))
    have hlen0 : 0 < (T.bs (64 * l + s)).length := List.length_pos_iff.2 hf.has
    have hlB : l < B := by
      rcases hB with hB | ⟨u, hu, hB⟩
      · replace hB : T.tms = [] := hB
        rw [hB] at hu0; cases hu0
      · have := hf.ahead u hu
        replace hB : u.lvl < B := hB
        omega
    refine At.skip ?_
    refine At.then ?_
    refine At.seq ?_
    refine At.region ?_
    refine L.mv rfl rfl ?_
    refine L.pure rfl (ev_add (r := ((l + 1 : Nat) : Int)) rfl rfl (by rw [w64 (by omega)]; omega)) ?_
    refine L.pure rfl (ev_mul (r := ((6 * (l + 1) : Nat) : Int)) rfl rfl (by rw [w64 (by omega)]; omega)) ?_
    refine L.as rfl rfl ?_
    refine L.nil ?_
    refine At.then ?_
    refine At.seq ?_
    refine Dr.start rfl ?_
    refine Dr.p 0 rfl rfl (by kernel_rfl) (ev_move rfl) ?_
    refine Dr.p 1 rfl rfl (by kernel_rfl) (ev_nil rfl) ?_
    refine Dr.p 2 rfl rfl (by kernel_rfl) (ev_field (off := 0) rfl rfl) ?_
    refine Dr.ld 3 rfl rfl (by kernel_rfl) (ev_load1 rfl rfl) (cellIs (wcell_at0 _ _ _ _ _)) ?_
    refine Dr.p 4 rfl rfl (by kernel_rfl) (ev_move rfl) ?_
    refine Dr.p 5 rfl rfl (by kernel_rfl) (ev_shr (r := ((T.now / 64 ^ (l + 1) : Nat) : Int)) rfl rfl (by omega) (shr_lv (by omega) hl)) ?_
    refine Dr.p 6 rfl rfl (by kernel_rfl) (ev_move rfl) ?_
    refine Dr.p 7 rfl rfl (by kernel_rfl) (ev_shl (r := ((T.now / 64 ^ (l + 1) * 64 ^ (l + 1) : Nat) : Int)) rfl rfl (by omega) (shl_lv (by omega) hl)) ?_
    refine Dr.p 8 rfl rfl (by kernel_rfl) (ev_move rfl) ?_
    refine Dr.p 9 rfl rfl (by kernel_rfl) (ev_conv (r := (s : Int)) rfl rfl rfl (wu64 (by omega))) ?_
    refine Dr.p 10 rfl rfl (by kernel_rfl) (ev_move rfl) ?_
    refine Dr.p 11 rfl rfl (by kernel_rfl) (ev_mul (r := ((6 * l : Nat) : Int)) rfl rfl (by rw [w64 (by omega)]; omega)) ?_
    refine Dr.p 12 rfl rfl (by kernel_rfl) (ev_shl (r := ((s * 64 ^ l : Nat) : Int)) rfl rfl (by omega) (shl_sl hs62 hl)) ?_
    refine Dr.p 13 rfl rfl (by kernel_rfl) (ev_or (r := ((FK.startOf T.now l s : Nat) : Int)) rfl rfl (by rw [or_nat (Nat.lt_of_le_of_lt hq (by omega)) (Nat.lt_of_le_of_lt hs62 (by omega)), or_start hs])) ?_
    refine Dr.p 14 rfl rfl (by kernel_rfl) (ev_assign rfl) ?_
    refine Dr.done (by kernel_rfl) ?_
    refine At.then ?_
    refine At.seq ?_
    refine At.seq ?_
    refine At.region ?_
    refine L.mv rfl rfl ?_
    refine L.mv rfl rfl ?_
    refine L.pure rfl (ev_gtr rfl rfl rfl) ?_
    refine L.nil ?_
    refine At.then ?_
    refine At.condD rfl (fun c43 => ?_) (fun c43 => ?_)
    ·
      have hst := hT.stay hTup hto62 (.inr ⟨l, s, hf, by omega⟩)
      refine At.exit ?_
      refine At.thenExit (At.inBlockMiss rfl (At.roundExit (At.inBlockHit (At.then ?_))))
      refine At.seq ?_
      refine At.region ?_
      refine L.mv rfl rfl ?_
      refine L.mv rfl rfl ?_
      refine L.nc rfl rfl ?_
      refine L.fa 0 rfl rfl rfl ?_
      refine L.val rfl (ev_load1 rfl rfl) (cellIs (wcell_at0 _ _ _ _ _)) ?_
      refine L.mv rfl rfl ?_
      refine L.pure rfl (ev_max (r := (up : Int)) rfl rfl (by omega)) ?_
      refine L.nc rfl rfl ?_
      refine L.fa 0 rfl rfl rfl ?_
      refine L.st rfl rfl rfl rfl (by rw [wcN_size]; omega) ?_
      rw [wc_set, wcell_now]
      refine L.nil ?_
      refine At.then ?_
      refine At.seq ?_
      refine At.region ?_
      refine L.val rfl (ev_loadN (vs := plL ⟨0, 0, 0⟩) rfl rfl rfl rfl) (rowAll rfl) ?_
      refine L.op rfl (o_storeN rfl (m := 3) rfl rfl rfl rfl (by simp [Value.oneCell']) (by first | decide | (simp [Value.cells]; done) | (simp [Value.cells]; omega)) ?_)
      refine L.as rfl rfl ?_
      refine L.as rfl rfl ?_
      refine L.nil ?_
      refine At.then ?_
      refine At.ret ?_
      skip
      have hall : ∀ y ∈ S.tms.map FK.kd, up < y.2 := fun y hy => by
        rw [← hkd] at hy
        obtain ⟨u, hu, rfl⟩ := List.mem_map.1 hy
        exact hst.2 u hu
      exact At.res3 [_] rfl (Res.cellN (vs := plL ⟨0, 0, 0⟩) rfl rfl rfl rfl (rowAll rfl)) (Res.tmp rfl) (Res.tmp rfl) (.inr ⟨{ T with now := up }, hall, hkd, hst.1, rfl, hTsq, rfl, rfl⟩) (Ent.drop.trans (Ent.closeWheel (S := { T with now := up }) (sl := sl) (mp := mp)))
    ·
      refine At.skip ?_
      refine At.then ?_
      refine At.seq ?_
      refine At.region ?_
      refine L.mv rfl rfl ?_
      refine L.mv rfl rfl ?_
      refine L.mv rfl rfl ?_
      refine L.nc rfl rfl ?_
      refine L.fa 0 rfl rfl rfl ?_
      refine L.val rfl (ev_load1 rfl rfl) (cellIs (wcell_at0 _ _ _ _ _)) ?_
      refine L.pure rfl (ev_max (r := ((max (FK.startOf T.now l s) T.now : Nat) : Int)) rfl rfl (by omega)) ?_
      refine L.nc rfl rfl ?_
      refine L.fa 0 rfl rfl rfl ?_
      refine L.st rfl rfl rfl rfl (by rw [wcN_size]; omega) ?_
      rw [wc_set, wcell_now]
      refine L.nil ?_
      refine At.then ?_
      refine At.seq ?_
      refine At.seq ?_
      refine At.region ?_
      refine L.mv rfl rfl ?_
      refine L.pure rfl (ev_eql rfl rfl rfl) ?_
      refine L.nil ?_
      refine At.then ?_
      refine At.condD rfl (fun c54 => ?_) (fun c54 => ?_)
      ·
        obtain rfl : l = 0 := by omega
        obtain ⟨a, t, b, hS, h0, hdue, hmin⟩ := hT.head0 hf
        have hT1 := (hT.to0 hf).1
        have htm : t ∈ T.tms := by rw [hS]; simp
        obtain ⟨mx, hmx⟩ : ∃ mx, mx = max (FK.startOf T.now 0 s) T.now := ⟨_, rfl⟩
        rw [← hmx] at hT1 hdue ⊢
        refine At.ent (l' := ptrsAt (sl (64 * 0 + s)) (T.bs (64 * 0 + s)) :: slotsBut sl T.bs (64 * 0 + s) :: blk w 337 (wc (wcell mx T.seq sl T.us mp)) :: tmrs T.tms :: vmap plV mp (byOf T.tms) :: blk b4 268 (plA ⟨0, 0, 0⟩) :: fr) ((Ent.perm (List.Perm.swap _ _ _)).trans ((slots_open hk7).trans (Ent.refl _))) ?_
        refine At.formRow .head ?_
        intro A c hA hnil hform hc1 hc2 _
        rw [hA]
        obtain ⟨g, rfl⟩ : ∃ g, A = some ⟨g, 0, none⟩ := by
          cases A with
          | none => have := (hnil rfl).1; omega
          | some ad => obtain ⟨g, rfl⟩ := hform ad rfl; exact ⟨g, rfl⟩
        refine At.seq ?_
        refine At.region ?_
        refine L.mv rfl rfl ?_
        refine L.mv rfl rfl ?_
        refine L.nc rfl rfl ?_
        refine L.fa 2 rfl rfl rfl ?_
        refine L.pure rfl (ev_ixAN (i := 0) (z := 64) (o' := 2) rfl rfl rfl rfl (by omega) (by omega)) ?_
        refine L.pure rfl (ev_ixAN (i := s) (z := 1) (o' := 2 + (64 * 0 + s)) rfl rfl rfl rfl hs (by omega)) ?_
        refine L.val rfl (ev_load1 (v := .slice (some ⟨g, 0, none⟩) (T.bs (64 * 0 + s)).length c) rfl rfl) (cellIs (by rw [wcell_atS _ _ _ _ _ hk7, hA])) ?_
        refine L.pure rfl (ev_ixN (i := 0) (z := 1) rfl rfl rfl rfl hlen0) ?_
        refine L.val rfl (ev_load1 (v := ptr t.blk) rfl rfl) (cellIn .head (by simpa using h0)) ?_
        refine L.as rfl rfl ?_
        refine L.nil ?_
        refine At.then ?_
        refine At.seq ?_
        refine At.region ?_
        refine L.mv rfl rfl ?_
        refine L.mv rfl rfl ?_
        refine L.nc rfl rfl ?_
        refine L.fa 0 rfl rfl rfl ?_
        refine L.val rfl (ev_loadN (vs := plL t.key) rfl rfl rfl rfl) (tmKey (.tail (.tail (.tail (.head)))) htm) ?_
        refine L.op rfl (o_call rfl rfl rfl hE (drop_some (S := { T with now := mx }) (t := t) w hT1 hS hTln) ((slots_reclose hk7 hA).trans ((Ent.perm (List.Perm.swap _ _ _)).trans (Ent.closeWheel (S := { T with now := mx }) (sl := sl) (mp := mp)))) ?_)
        rintro v m ⟨rfl, rfl⟩
        refine At.app2 ?_
        refine L.nil ?_
        refine At.then ?_
        refine At.seq ?_
        refine Dr.start rfl ?_
        refine Dr.p 0 rfl rfl (by kernel_rfl) (ev_move rfl) ?_
        refine Dr.p 1 rfl rfl (by kernel_rfl) (ev_nil rfl) ?_
        refine Dr.p 2 rfl rfl (by kernel_rfl) (ev_field (off := 0) rfl rfl) ?_
        refine Dr.ld 3 rfl rfl (by kernel_rfl) (ev_loadN (vs := plL t.key) rfl rfl rfl rfl) (rowIs (key_row t)) ?_
        refine Dr.p 4 rfl rfl (by kernel_rfl) (ev_move rfl) ?_
        refine Dr.p 5 rfl rfl (by kernel_rfl) (ev_nil rfl) ?_
        refine Dr.p 6 rfl rfl (by kernel_rfl) (ev_field (off := 3) rfl rfl) ?_
        refine Dr.ld 7 rfl rfl (by kernel_rfl) (ev_load1 rfl rfl) (cellIs rfl) ?_
        refine Dr.run 8 rfl rfl (by kernel_rfl) (o_storeN rfl (m := 3) rfl rfl rfl rfl (by simp [Value.oneCell']) (by first | decide | (simp; done) | (simp [Value.cells]; omega)) ?_)
        refine Dr.kept [true, false] (by kernel_rfl) (Kept.cons (cellIs rfl) Kept.nil) ?_
        refine Dr.p 9 rfl rfl (by kernel_rfl) (ev_assign rfl) ?_
        refine Dr.p 10 rfl rfl (by kernel_rfl) (ev_assign rfl) ?_
        refine Dr.done (by kernel_rfl) ?_
        refine At.then ?_
        refine At.ret ?_
        refine At.thenRet (At.inBlockRet (At.roundRet (At.inBlockRet (At.thenRet ?_))))
        exact At.res3 [_] rfl (Res.cellN (vs := plL t.key) rfl rfl rfl rfl (rowAll rfl)) (Res.tmp rfl) (Res.tmp rfl) (.inl ⟨({ T with now := mx } : FK.WS).drop a t b, FK.kd t, hkd ▸ hmin, (by show t.due ≤ up; omega), hT1.drop hS, hdue.symm, hTsq, rfl, rfl⟩) (Ent.drop.trans (Ent.cons Ent.drop))
      ·
        have hl1 : 1 ≤ l := by omega
        obtain ⟨hmx, hT2⟩ := hT.toL hl1 hf
        have hC := FK.Casc.begin hT hl1 hf
        have hsl : (T.bs (64 * l + s)).length ≤ 100000 := slot_len hT (by omega) hk7
        rw [hmx]
        refine At.ent (l' := ptrsAt (sl (64 * l + s)) (T.bs (64 * l + s)) :: slotsBut sl T.bs (64 * l + s) :: blk w 337 (wc (wcell (FK.startOf T.now l s) T.seq sl T.us mp)) :: tmrs T.tms :: vmap plV mp (byOf T.tms) :: blk b4 268 (plA ⟨0, 0, 0⟩) :: fr) ((Ent.perm (List.Perm.swap _ _ _)).trans ((slots_open hk7).trans (Ent.refl _))) ?_
        refine At.formRow .head ?_
        intro A c hA hnil hform hc1 hc2 _
        rw [hA]
        obtain ⟨g, rfl⟩ : ∃ g, A = some ⟨g, 0, none⟩ := by
          cases A with
          | none => have := (hnil rfl).1; omega
          | some ad => obtain ⟨g, rfl⟩ := hform ad rfl; exact ⟨g, rfl⟩
        refine At.skip ?_
        refine At.then ?_
        refine At.seq ?_
        refine At.region ?_
        refine L.mv rfl rfl ?_
        refine L.mv rfl rfl ?_
        refine L.mv rfl rfl ?_
        refine L.nc rfl rfl ?_
        refine L.fa 2 rfl rfl rfl ?_
        refine L.pure rfl (ev_ixAN (i := l) (z := 64) (o' := 2 + 64 * l) rfl rfl rfl rfl hl (by omega)) ?_
        refine L.pure rfl (ev_ixAN (i := s) (z := 1) (o' := 2 + (64 * l + s)) rfl rfl rfl rfl hs (by omega)) ?_
        refine L.val rfl (ev_load1 (v := .slice (some ⟨g, 0, none⟩) (T.bs (64 * l + s)).length c) rfl rfl) (cellIs (by rw [wcell_atS _ _ _ _ _ hk7, hA])) ?_
        refine L.as rfl rfl ?_
        refine L.nil ?_
        refine At.then ?_
        refine At.seq ?_
        refine At.region ?_
        refine L.mv rfl rfl ?_
        refine L.mv rfl rfl ?_
        refine L.mv rfl rfl ?_
        refine L.nc rfl rfl ?_
        refine L.fa 2 rfl rfl rfl ?_
        refine L.pure rfl (ev_ixAN (i := l) (z := 64) (o' := 2 + 64 * l) rfl rfl rfl rfl hl (by omega)) ?_
        refine L.pure rfl (ev_ixAN (i := s) (z := 1) (o' := 2 + (64 * l + s)) rfl rfl rfl rfl hs (by omega)) ?_
        refine L.st rfl rfl rfl rfl (by rw [wcN_size]; omega) ?_
        rw [wc_set, wcell_slot _ _ _ _ _ hk7]
        refine L.nil ?_
        refine At.then ?_
        refine At.seq ?_
        refine Dr.start rfl ?_
        refine Dr.p 0 rfl rfl (by kernel_rfl) (ev_move rfl) ?_
        refine Dr.p 1 rfl rfl (by kernel_rfl) (ev_move rfl) ?_
        refine Dr.p 2 rfl rfl (by kernel_rfl) (ev_nil rfl) ?_
        refine Dr.p 3 rfl rfl (by kernel_rfl) (ev_field (off := 706) rfl rfl) ?_
        refine Dr.p 4 rfl rfl (by kernel_rfl) (ev_ixAN (i := l) (z := 1) (o' := 706 + l) rfl rfl rfl rfl hl (by omega)) ?_
        refine Dr.ld 5 rfl rfl (by kernel_rfl) (ev_load1 rfl rfl) (cellIs (wcell_atU _ _ _ _ _ hl)) ?_
        refine Dr.p 6 rfl rfl (by kernel_rfl) (ev_move rfl) ?_
        refine Dr.p 7 rfl rfl (by kernel_rfl) (ev_shl (r := ((2 ^ s : Nat) : Int)) rfl rfl (by omega) (shl_one hs)) ?_
        refine Dr.p 8 rfl rfl (by kernel_rfl) (ev_andNot (r := ((FK.clr (T.us l) s : Nat) : Int)) rfl rfl (clr_nat (hT.uslt l hl) hs)) ?_
        refine Dr.p 9 rfl rfl (by kernel_rfl) (ev_nil rfl) ?_
        refine Dr.p 10 rfl rfl (by kernel_rfl) (ev_field (off := 706) rfl rfl) ?_
        refine Dr.p 11 rfl rfl (by kernel_rfl) (ev_ixAN (i := l) (z := 1) (o' := 706 + l) rfl rfl rfl rfl hl (by omega)) ?_
        refine Dr.run 12 rfl rfl (by kernel_rfl) (o_store1 rfl rfl rfl rfl rfl (by rw [wcN_size]; omega) ?_)
        rw [wc_set, wcell_used _ _ _ _ _ hl]
        refine Dr.kept [false] (by kernel_rfl) Kept.nil ?_
        refine Dr.done (by kernel_rfl) ?_
        refine At.then ?_
        refine At.seq ?_
        refine At.ent (l' := ptrsAt (.slice (some ⟨g, 0, none⟩) (T.bs (64 * l + s)).length c) (T.bs (64 * l + s)) :: wheelAt w (({ T with now := FK.startOf T.now l s } : FK.WS).clear l s) :: blk b4 268 (plA ⟨0, 0, 0⟩) :: fr) ((Ent.sel (.tail (.head))).trans (Ent.cons ((Ent.sel (.tail (.head))).trans (Ent.row0.trans ((slots_close hk7).trans ((Ent.perm (List.Perm.swap _ _ _)).trans (Ent.closeWheel (S := ({ T with now := FK.startOf T.now l s } : FK.WS).clear l s) (sl := upd sl (64 * l + s) _) (mp := mp)))))))) ?_
        refine At.region ?_
        refine L.mv rfl rfl ?_
        refine L.pure rfl (ev_lenS rfl rfl) ?_
        refine L.mv rfl rfl ?_
        refine L.nil ?_
        refine At.then ?_
        refine At.block ?_
        refine At.loop (X := FK.WS × Nat) (fun p => [(107, .int .i64 p.2), (106, .int .i64 (T.bs (64 * l + s)).length), (105, .slice (some ⟨g, 0, none⟩) (T.bs (64 * l + s)).length c), (0, ptr w), (1, .int .u64 up), (4, ptr b4)]) (fun p => ptrsAt (.slice (some ⟨g, 0, none⟩) (T.bs (64 * l + s)).length c) (T.bs (64 * l + s)) :: wheelAt w p.1 :: blk b4 268 (plA ⟨0, 0, 0⟩) :: fr) (fun p => p.2 ≤ (T.bs (64 * l + s)).length ∧ FK.Casc p.1 l ((T.bs (64 * l + s)).drop p.2) ∧ p.1.now = FK.startOf T.now l s ∧ p.1.seq = S.seq ∧ p.1.tms.map FK.kd = S.tms.map FK.kd) (fun p => (T.bs (64 * l + s)).length - p.2) (({ T with now := FK.startOf T.now l s } : FK.WS).clear l s, 0) ⟨Nat.zero_le _, hC, rfl, hTsq, hkd⟩ ⟨rfl, rfl, rfl, rfl, rfl, rfl, trivial⟩ (Ent.refl _) ?_
        rintro ⟨U, i⟩ ⟨hi, hCU, hUn, hUsq, hUkd⟩
        replace hi : i ≤ (T.bs (64 * l + s)).length := hi
        replace hCU : FK.Casc U l ((T.bs (64 * l + s)).drop i) := hCU
        replace hUn : U.now = FK.startOf T.now l s := hUn
        replace hUsq : U.seq = S.seq := hUsq
        replace hUkd : U.tms.map FK.kd = S.tms.map FK.kd := hUkd
        refine At.seq ?_
        refine At.region ?_
        refine L.pure rfl (ev_lss rfl rfl rfl) ?_
        refine L.nil ?_
        refine At.then ?_
        refine At.seq ?_
        refine At.condD rfl (fun c108 => ?_) (fun c108 => ?_)
        ·
          have hlt : i < (T.bs (64 * l + s)).length := by omega
          obtain ⟨x, hx⟩ : ∃ x, (T.bs (64 * l + s))[i]? = some x := ⟨(T.bs (64 * l + s))[i], by simp [hlt]⟩
          have hdr : (T.bs (64 * l + s)).drop i = x :: (T.bs (64 * l + s)).drop (i + 1) := by
            rw [List.drop_eq_getElem_cons hlt]
            rw [List.getElem?_eq_getElem hlt] at hx
            injection hx with hx
            rw [hx]
          rw [hdr] at hCU
          obtain ⟨a, t, b, hUS, rfl, hlow, hC'⟩ := hCU.step
          have hUln : U.tms.length ≤ 99999 := by rw [kd_len hUkd]; exact hln
          refine At.skip ?_
          refine At.then ?_
          refine At.seq ?_
          refine At.block ?_
          refine At.seq ?_
          refine At.region ?_
          refine L.pure rfl (ev_ixN (z := 1) rfl rfl rfl rfl hlt) ?_
          refine L.val rfl (ev_load1 (v := ptr t.blk) rfl rfl) (cellIn .head (by simp [hx])) ?_
          refine L.as rfl rfl ?_
          refine L.nil ?_
          refine At.then ?_
          refine At.region ?_
          refine L.mv rfl rfl ?_
          refine L.mv rfl rfl ?_
          refine L.op rfl (o_call rfl rfl rfl hE (put_does w hCU.inv hUS (by omega) hUln hlow) (Ent.sel (.tail (.head))) ?_)
          rintro v m ⟨rfl, rfl⟩
          refine At.app1 ?_
          refine L.nil ?_
          refine At.inBlock (At.then ?_)
          refine At.region ?_
          refine L.pure rfl (ev_add (r := ((i + 1 : Nat) : Int)) rfl rfl (by rw [w64 (by omega)]; omega)) ?_
          refine L.mv rfl rfl ?_
          refine L.nil ?_
          exact At.round (U.put a t b, i + 1) ⟨by show i + 1 ≤ _; omega, hC', hUn, hUsq, (kd_put hUS).trans hUkd⟩ (by show _ - (i + 1) < _ - i; omega) ⟨rfl, rfl, rfl, rfl, rfl, rfl, trivial⟩ (Ent.perm (List.Perm.swap _ _ _))
        ·
          obtain rfl : i = (T.bs (64 * l + s)).length := by omega
          rw [List.drop_length] at hCU
          refine At.exit ?_
          refine At.thenExit (At.roundExit (At.inBlockHit (At.inBlock ?_)))
          exact At.round (U, l) ⟨hCU.inv, (by show U.now ≤ up; omega), hUsq, hUkd, .inr (by obtain ⟨t, ht, h1⟩ := hCU.some; exact ⟨t, ht, h1.resolve_left (by simp)⟩)⟩ hlB ⟨rfl, rfl, rfl, trivial⟩ Ent.drop
end Go.Proofs.YtmeegfamopaljaaGreatDoor
