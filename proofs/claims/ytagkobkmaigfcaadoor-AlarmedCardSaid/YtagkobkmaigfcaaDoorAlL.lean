/- A wheel in memory, and a timer put into its slot. -/
import Derived.Test.YtagkobkmaigfcaaDoorAlK
import Derived.Test.YtagkobkmaigfcaaDoorAlG
import Derived.Test.YtagkobkmaigfcaaDoorAlF
namespace Go.SL
open Go Go.RowKit
section
variable {P : Program} {ts : List (Nat × Value)}
theorem ev_ixAN {t e : TypeId} {x y : Operand} {k : IntKind} {i b o o' n z : Nat} (ht : P.underlying t = some (.array n e)) (hz : sizeIs P e z) (hx : ev ts x = some (.pointer (some ⟨b, o, none⟩))) (hy : ev ts y = some (.int k (i : Int))) (h1 : i < n) (ho : o + i * z = o') :
    Ev P ts (.indexAddr t x y) (.pointer (some ⟨b, o', none⟩)) Any := by
  have := ev_ixA (P := P) ht hz hx hy (by omega) (by omega)
  subst ho
  simpa using this
end
end Go.SL
namespace Go.Proofs.YtagkobkmaigfcaaDoor
open Go Go.RowKit Go.SL
open FK (upd upd_at upd_off)
variable {G : Env → Prop}

/-! ### words -/
theorem wu64 {a : Nat} (h : a < 18446744073709551616) : IntKind.u64.wrap (a : Int) = (a : Int) := by rw [mu64]; omega
theorem xor_nat {a b : Nat} (ha : a < 18446744073709551616) (hb : b < 18446744073709551616) : bits .xor .u64 (a : Int) (b : Int) = ((a ^^^ b : Nat) : Int) := by
  have h1 : a ^^^ b < 18446744073709551616 := Nat.xor_lt_two_pow (n := 64) ha hb
  have e : bits .xor .u64 (a : Int) (b : Int) = IntKind.u64.wrap (((BitVec.ofInt 64 (a : Int)) ^^^ (BitVec.ofInt 64 (b : Int))).toNat : Int) := rfl
  rw [e, BitVec.toNat_xor, BitVec.ofInt_natCast, BitVec.ofInt_natCast, BitVec.toNat_ofNat, BitVec.toNat_ofNat, Nat.mod_eq_of_lt ha, Nat.mod_eq_of_lt hb, wu64 h1]
theorem or_nat {a b : Nat} (ha : a < 18446744073709551616) (hb : b < 18446744073709551616) : bits .or .u64 (a : Int) (b : Int) = ((a ||| b : Nat) : Int) := by
  have h1 : a ||| b < 18446744073709551616 := Nat.or_lt_two_pow (n := 64) ha hb
  have e : bits .or .u64 (a : Int) (b : Int) = IntKind.u64.wrap (((BitVec.ofInt 64 (a : Int)) ||| (BitVec.ofInt 64 (b : Int))).toNat : Int) := rfl
  rw [e, BitVec.toNat_or, BitVec.ofInt_natCast, BitVec.ofInt_natCast, BitVec.toNat_ofNat, BitVec.toNat_ofNat, Nat.mod_eq_of_lt ha, Nat.mod_eq_of_lt hb, wu64 h1]
theorem clr_nat {a s : Nat} (ha : a < 18446744073709551616) (hs : s < 64) : bits .andNot .u64 (a : Int) ((2 ^ s : Nat) : Int) = ((FK.clr a s : Nat) : Int) := by
  have hb : (2 : Nat) ^ s < 18446744073709551616 := Nat.pow_lt_pow_right (a := 2) (m := s) (n := 64) (by omega) hs
  have e : bits .andNot .u64 (a : Int) ((2 ^ s : Nat) : Int) = IntKind.u64.wrap (((BitVec.ofInt 64 (a : Int)) &&& ~~~ (BitVec.ofInt 64 ((2 ^ s : Nat) : Int))).toNat : Int) := rfl
  have h2 : a &&& (2 ^ 64 - 1 - 2 ^ s) = FK.clr a s := by
    unfold FK.clr
    congr 1
    omega
  rw [e, BitVec.toNat_and, BitVec.toNat_not, BitVec.ofInt_natCast, BitVec.ofInt_natCast, BitVec.toNat_ofNat, BitVec.toNat_ofNat, Nat.mod_eq_of_lt ha, Nat.mod_eq_of_lt hb, h2, wu64 (FK.clr_lt ha)]
theorem shl_one {s : Nat} (hs : s < 64) : IntKind.u64.wrap ((1 : Int) * 2 ^ min ((s : Int)).toNat IntKind.u64.bits) = ((2 ^ s : Nat) : Int) := by
  have hb : (2 : Nat) ^ s < 18446744073709551616 := Nat.pow_lt_pow_right (a := 2) (m := s) (n := 64) (by omega) hs
  have h1 : min ((s : Int)).toNat IntKind.u64.bits = s := by
    show min ((s : Int)).toNat 64 = s
    omega
  rw [h1, Int.one_mul, show ((2 : Int) ^ s) = ((2 ^ s : Nat) : Int) by simp, wu64 hb]
theorem lev_len (x : Nat) : (len64 x - 1) / 6 = Nat.log2 x / 6 := by
  unfold len64
  split
  · rename_i h; subst h; rfl
  · rw [Nat.add_sub_cancel]
theorem len64_le {x : Nat} (hx : x < 18446744073709551616) : len64 x ≤ 64 := by
  unfold len64
  split
  · omega
  · rename_i h0
    have := (Nat.log2_lt h0).2 (show x < 2 ^ 64 from hx)
    omega

/-! ### the wheel's memory -/
abbrev tmBlk (t : FK.Tmr) : HP := blk t.blk 126 #[.int .i64 t.key, .int .u64 t.due, .int .u64 t.seq, .int .i64 t.lvl, .int .i64 t.slot]
def tmrs (l : List FK.Tmr) : HP := HP.all (l.map tmBlk)
def byOf (l : List FK.Tmr) : List (Int × Value) := l.map fun t => (t.key, ptr t.blk)
abbrev whl (w : Nat) (S : FK.WS) (sl : Nat → Value) (mp : Nat) : HP := blk w 115 (wc (wcell S.now S.seq sl S.us mp))
def wheelAt (w : Nat) (S : FK.WS) : HP := HP.ex fun p : (Nat → Value) × Nat => HP.all [whl w S p.1 p.2, slots p.1 S.bs, tmrs S.tms, imap .i64 p.2 (byOf S.tms)]

theorem At.openWheel {E : Env} {n : Nat} {D : List Deferred} {ts : List (Nat × Value)} {l r : List HP} {K : Act → World → Prop} {w : Nat} {S : FK.WS} (s : Sel (wheelAt w S) l r)
    (h : ∀ sl mp, At E n D ts (whl w S sl mp :: slots sl S.bs :: tmrs S.tms :: imap .i64 mp (byOf S.tms) :: r) K) : At E n D ts l K := by
  refine At.ex s fun p => ?_
  exact At.openAll (h p.1 p.2)
theorem Ent.closeWheel {w : Nat} {S : FK.WS} {sl : Nat → Value} {mp : Nat} {r : List HP} : Ent (whl w S sl mp :: slots sl S.bs :: tmrs S.tms :: imap .i64 mp (byOf S.tms) :: r) (wheelAt w S :: r) :=
  (Ent.all (m := [whl w S sl mp, slots sl S.bs, tmrs S.tms, imap .i64 mp (byOf S.tms)])).trans (Ent.ex (f := fun p : (Nat → Value) × Nat => HP.all [whl w S p.1 p.2, slots p.1 S.bs, tmrs S.tms, imap .i64 p.2 (byOf S.tms)]) (sl, mp))

theorem tmrs_open {a b : List FK.Tmr} {t : FK.Tmr} {r : List HP} : Ent (tmrs (a ++ t :: b) :: r) (tmBlk t :: tmrs (a ++ b) :: r) := by
  refine (Ent.unall (m := (a ++ t :: b).map tmBlk)).trans ?_
  have h : ((a ++ t :: b).map tmBlk ++ r).Perm (tmBlk t :: ((a ++ b).map tmBlk ++ r)) := by
    have : ((a ++ t :: b).map tmBlk).Perm (tmBlk t :: (a ++ b).map tmBlk) := by
      have h0 := (List.perm_middle (a := t) (l₁ := a) (l₂ := b)).map tmBlk
      rwa [List.map_cons] at h0
    exact this.append_right r
  exact (Ent.perm h).trans (Ent.cons (Ent.all (m := (a ++ b).map tmBlk)))
theorem tmrs_close {a b : List FK.Tmr} {t : FK.Tmr} {r : List HP} : Ent (tmBlk t :: tmrs (a ++ b) :: r) (tmrs (a ++ t :: b) :: r) := by
  refine (Ent.cons (Ent.unall (m := (a ++ b).map tmBlk))).trans ?_
  have h : (tmBlk t :: ((a ++ b).map tmBlk ++ r)).Perm ((a ++ t :: b).map tmBlk ++ r) := by
    have : (tmBlk t :: (a ++ b).map tmBlk).Perm ((a ++ t :: b).map tmBlk) := by
      have h0 := ((List.perm_middle (a := t) (l₁ := a) (l₂ := b)).map tmBlk).symm
      rwa [List.map_cons] at h0
    exact this.append_right r
  exact (Ent.perm h).trans (Ent.all (m := (a ++ t :: b).map tmBlk))

theorem tmrs_mem {w : World} {F : Nat → Prop} {l : List FK.Tmr} (h : (tmrs l).sat w F) {t : FK.Tmr} (ht : t ∈ l) : w.heap[t.blk]? = some (.cells #[.int .i64 t.key, .int .u64 t.due, .int .u64 t.seq, .int .i64 t.lvl, .int .i64 t.slot] 126) :=
  (Star.mem h (List.mem_map_of_mem ht)).2
/-- a timer's cell -/
theorem tmCell {E : Env} {l : List FK.Tmr} {m r : List HP} {t : FK.Tmr} {i : Nat} {v : Value} (s : Sel (tmrs l) m r) (ht : t ∈ l) (hv : (#[Value.int .i64 t.key, .int .u64 t.due, .int .u64 t.seq, .int .i64 t.lvl, .int .i64 t.slot])[i]? = some v) : ∀ w, Holds E w m → CellIs ⟨t.blk, i, none⟩ v w := fun w hw => by
  obtain ⟨F1, _, _, _, _, hp, _⟩ := (hw.sel s).star
  have := tmrs_mem hp ht
  simp [CellIs, World.cell?, this, hv]

def sqOf (l : List FK.Tmr) (b : Nat) : Nat := ((l.find? (·.blk == b)).map (·.seq)).getD 0
theorem tmrs_find {l : List FK.Tmr} {b : Nat} (h : ∃ u ∈ l, u.blk = b) : ∃ u ∈ l, u.blk = b ∧ sqOf l b = u.seq := by
  obtain ⟨u, hu, e⟩ := h
  cases hf : l.find? (·.blk == b) with
  | none =>
    have := List.find?_eq_none.1 hf u hu
    simp [e] at this
  | some v =>
    have h1 := List.find?_some hf
    exact ⟨v, List.mem_of_find?_eq_some hf, by simpa using h1, by simp [sqOf, hf]⟩
theorem tmrs_below {l : List FK.Tmr} {bs : List Nat} {n : Nat} (h : ∀ b ∈ bs, ∃ u ∈ l, u.blk = b) (hlt : ∀ u ∈ l, u.blk ∈ bs → u.seq < n) : Below' (tmrs l) bs (sqOf l) n := by
  constructor
  · intro b hb
    obtain ⟨u, hu, e, hs⟩ := tmrs_find (h b hb)
    rw [hs]
    exact hlt u hu (e ▸ hb)
  · intro w F hs b hb
    obtain ⟨u, hu, e, hq⟩ := tmrs_find (h b hb)
    have := tmrs_mem hs hu
    rw [hq, ← e]
    simp [World.cell?, this]
theorem tmrs_blks {l : List FK.Tmr} {bs : List Nat} (h : ∀ b ∈ bs, ∃ u ∈ l, u.blk = b) : Blks (tmrs l) bs := by
  intro w F hs b hb
  obtain ⟨u, hu, e⟩ := h b hb
  have := tmrs_mem hs hu
  rw [e] at this
  exact ⟨_, _, this⟩

theorem slot_len {S : FK.WS} {un : List Nat} (h : FK.Inv S un) (hl : S.tms.length ≤ 100000) {i : Nat} (hi : i < 704) : (S.bs i).length ≤ 100000 := by
  rw [h.slot i hi, List.length_map]
  exact Nat.le_trans (List.length_filter_le _ _) hl
theorem byOf_put (a b : List FK.Tmr) (t : FK.Tmr) (now : Nat) : byOf (a ++ t.place now :: b) = byOf (a ++ t :: b) := by simp [byOf, FK.Tmr.place]
end Go.Proofs.YtagkobkmaigfcaaDoor

/- A timer put into its slot. -/
namespace Go.Proofs.YtagkobkmaigfcaaDoor
open Go Go.RowKit Go.SL
open FK (upd upd_at upd_off)

set_option maxRecDepth 10000 in
set_option maxHeartbeats 1000000 in
theorem put_does {G : Env → Prop} {S : FK.WS} {a b : List FK.Tmr} {t : FK.Tmr} {rest : List Nat} (w : Nat) (h : FK.Inv S (t.blk :: rest)) (hS : S.tms = a ++ t :: b) (hsq : S.seq < 9223372036854775808) (hln : S.tms.length ≤ 99999)
    (hlow : ∀ u ∈ S.tms, u.blk ∉ t.blk :: rest → u.pos = (t.place S.now).pos → u.seq < t.seq) :
    Does Tryd.prog G 65 [ptr w, ptr t.blk].toArray [wheelAt w S] fun v m => v = .tuple #[] ∧ m = [wheelAt w (S.put a t b)] := by
  have htm : t ∈ S.tms := by rw [hS]; simp
  obtain ⟨k1, k2, k3⟩ := FK.place_lt h htm
  obtain ⟨hab, hbb⟩ := FK.nodup_mid (f := FK.Tmr.blk) (t := t) (by rw [← hS]; exact h.blks)
  obtain ⟨lv, hlv⟩ : ∃ lv, lv = FK.lev S.now t.due := ⟨_, rfl⟩
  obtain ⟨st, hst⟩ : ∃ st, st = FK.slt lv t.due := ⟨_, rfl⟩
  obtain ⟨k, hk⟩ : ∃ k, k = 64 * lv + st := ⟨_, rfl⟩
  have hpl : t.place S.now = { t with lvl := lv, slot := st } := by subst hst; subst hlv; rfl
  have hkp : (t.place S.now).pos = k := by rw [hpl, hk]; rfl
  rw [hpl] at k1 k2
  replace k1 : lv < 11 := k1
  replace k2 : st < 64 := k2
  rw [hkp] at k3 hlow
  have hdue := h.due t htm
  have hnow : S.now ≤ t.due := hdue.1
  have hd62 : t.due ≤ 4611686018427387904 := hdue.2
  have hxl : t.due ^^^ S.now < 18446744073709551616 := Nat.xor_lt_two_pow (n := 64) (show t.due < 18446744073709551616 by omega) (show S.now < 18446744073709551616 by omega)
  have h64 := len64_le hxl
  have hlev : (len64 (t.due ^^^ S.now) - 1) / 6 = lv := by rw [lev_len, hlv]; rfl
  have hslot : t.due / 2 ^ (6 * lv) % 64 = st := by rw [hst, ← FK.pow64]; rfl
  have hdiv : t.due / 2 ^ (6 * lv) ≤ t.due := Nat.div_le_self _ _
  have hsl := slot_len h (by omega) k3
  have hus := h.uslt lv k1
  have htq := h.seqle t htm
  have hmemS : ∀ x ∈ S.bs k, ∃ u ∈ a ++ b, u.blk = x := fun x hx => by
    obtain ⟨u, hu, e, _, hun⟩ := h.of_slot k3 hx
    rw [hS] at hu
    rcases List.mem_append.1 hu with hu | hu
    · exact ⟨u, by simp [hu], e⟩
    · rcases List.mem_cons.1 hu with rfl | hu
      · simp at hun
      · exact ⟨u, by simp [hu], e⟩
  have hbel : Below' (tmrs (a ++ b)) (S.bs k) (sqOf (a ++ b)) t.seq := tmrs_below hmemS fun u hu hin => by
    have hum : u ∈ S.tms := by
      rw [hS]
      rcases List.mem_append.1 hu with hu | hu <;> simp [hu]
    obtain ⟨x, hx, e, hp, hun⟩ := h.of_slot k3 hin
    have : x = u := FK.nodup_eq h.blks hx hum e
    subst this
    exact hlow x hum hun hp
  obtain ⟨q, hq⟩ : ∃ q, q = t.due / 2 ^ (6 * lv) := ⟨_, rfl⟩
  rw [← hq] at hslot hdiv
  have hp2 : (2 : Nat) ^ st < 18446744073709551616 := Nat.pow_lt_pow_right (a := 2) (m := st) (n := 64) (by omega) k2
  have hput : S.put a t b = { S with us := upd S.us lv (S.us lv ||| 2 ^ st), bs := upd S.bs k (S.bs k ++ [t.blk]), tms := a ++ { t with lvl := lv, slot := st } :: b } := by
    unfold FK.WS.put
    rw [hkp, hpl]
  have hby : byOf (a ++ t :: b) = byOf (a ++ { t with lvl := lv, slot := st } :: b) := by simp [byOf]
  clear hdue
  refine Does.body Tryd.func65 rfl rfl fun E fr hE => ?_
  refine At.app1 ?_
  refine At.openWheel .head fun sl mp => ?_
  rw [hS]
  refine At.ent (l' := ptrsAt (sl k) (S.bs k) :: slotsBut sl S.bs k :: tmBlk t :: tmrs (a ++ b) :: whl w S sl mp :: imap .i64 mp (byOf (a ++ t :: b)) :: fr) ?_ ?_
  · refine (Ent.perm (List.Perm.swap _ _ _)).trans ((slots_open k3).trans (Ent.cons (Ent.cons ?_)))
    refine (Ent.perm (List.Perm.swap _ _ _)).trans (tmrs_open.trans ?_)
    exact Ent.refl _
  refine At.formRow .head ?_
  intro A c hA hnil hform hc1 hc2 _
  rw [hA]
  refine At.seq ?_
  refine Dr.start rfl ?_
  refine Dr.p 0 rfl rfl (by kernel_rfl) (ev_move rfl) ?_
  refine Dr.p 1 rfl rfl (by kernel_rfl) (ev_move rfl) ?_
  refine Dr.p 2 rfl rfl (by kernel_rfl) (ev_nil rfl) ?_
  refine Dr.p 3 rfl rfl (by kernel_rfl) (ev_field (off := 1) rfl rfl) ?_
  refine Dr.ld 4 rfl rfl (by kernel_rfl) (ev_load1 rfl rfl) (cellIs rfl) ?_
  refine Dr.p 5 rfl rfl (by kernel_rfl) (ev_move rfl) ?_
  refine Dr.p 6 rfl rfl (by kernel_rfl) (ev_nil rfl) ?_
  refine Dr.p 7 rfl rfl (by kernel_rfl) (ev_field (off := 0) rfl rfl) ?_
  refine Dr.ld 8 rfl rfl (by kernel_rfl) (ev_load1 rfl rfl) (cellIs (wcell_at0 _ _ _ _ _)) ?_
  refine Dr.p 9 rfl rfl (by kernel_rfl) (ev_xor (r := ((t.due ^^^ S.now : Nat) : Int)) rfl rfl (xor_nat (by omega) (by omega))) ?_
  refine Dr.run 10 rfl rfl (by kernel_rfl) (o_call rfl rfl rfl hE (len64_does _ hxl) (Ent.refl _) ?_)
  rintro v m ⟨rfl, rfl⟩
  refine At.app0 ?_
  refine Dr.kept [true, true] (by kernel_rfl) (Kept.cons (cellIs (wcell_at0 _ _ _ _ _)) (Kept.cons (cellIs rfl) Kept.nil)) ?_
  refine Dr.p 11 rfl rfl (by kernel_rfl) (ev_sub (r := ((len64 (t.due ^^^ S.now) : Int) - 1)) rfl rfl (by rw [w64 (by omega)])) ?_
  refine Dr.p 12 rfl rfl (by kernel_rfl) (ev_max (r := ((len64 (t.due ^^^ S.now) - 1 : Nat) : Int)) rfl rfl (by omega)) ?_
  refine Dr.p 13 rfl rfl (by kernel_rfl) (ev_quo (r := (lv : Int)) rfl rfl (by omega) (by rw [← hlev, Int.tdiv_eq_ediv_of_nonneg (by omega), w64 (by omega)]; omega)) ?_
  refine Dr.p 14 rfl rfl (by kernel_rfl) (ev_nil rfl) ?_
  refine Dr.p 15 rfl rfl (by kernel_rfl) (ev_field (off := 3) rfl rfl) ?_
  refine Dr.run 16 rfl rfl (by kernel_rfl) (o_store1 rfl rfl rfl rfl rfl (by first | decide | simp | (simp; omega)) ?_)
  refine Dr.kept [false, false] (by kernel_rfl) Kept.nil ?_
  refine Dr.done (by kernel_rfl) ?_
  refine At.then ?_
  refine At.seq ?_
  refine Dr.start rfl ?_
  refine Dr.p 0 rfl rfl (by kernel_rfl) (ev_move rfl) ?_
  refine Dr.p 1 rfl rfl (by kernel_rfl) (ev_move rfl) ?_
  refine Dr.p 2 rfl rfl (by kernel_rfl) (ev_nil rfl) ?_
  refine Dr.p 3 rfl rfl (by kernel_rfl) (ev_field (off := 1) rfl rfl) ?_
  refine Dr.ld 4 rfl rfl (by kernel_rfl) (ev_load1 rfl rfl) (cellIs rfl) ?_
  refine Dr.p 5 rfl rfl (by kernel_rfl) (ev_move rfl) ?_
  refine Dr.p 6 rfl rfl (by kernel_rfl) (ev_nil rfl) ?_
  refine Dr.p 7 rfl rfl (by kernel_rfl) (ev_field (off := 3) rfl rfl) ?_
  refine Dr.ld 8 rfl rfl (by kernel_rfl) (ev_load1 rfl rfl) (cellIs rfl) ?_
  refine Dr.p 9 rfl rfl (by kernel_rfl) (ev_mul (r := ((6 * lv : Nat) : Int)) rfl rfl (by rw [w64 (by omega)]; simp)) ?_
  refine Dr.p 10 rfl rfl (by kernel_rfl) (ev_shr (r := (q : Int)) rfl rfl (by omega) (by rw [hq]; exact shr_nat t.due (6 * lv) (by omega) (by omega))) ?_
  refine Dr.p 11 rfl rfl (by kernel_rfl) (ev_conv (r := (q : Int)) rfl rfl rfl (w64 (by omega))) ?_
  refine Dr.p 12 rfl rfl (by kernel_rfl) (ev_rem (r := (st : Int)) rfl rfl (by omega) (by rw [Int.tmod_eq_emod_of_nonneg (by omega)]; omega)) ?_
  refine Dr.p 13 rfl rfl (by kernel_rfl) (ev_nil rfl) ?_
  refine Dr.p 14 rfl rfl (by kernel_rfl) (ev_field (off := 4) rfl rfl) ?_
  refine Dr.run 15 rfl rfl (by kernel_rfl) (o_store1 rfl rfl rfl rfl rfl (by first | decide | simp | (simp; omega)) ?_)
  refine Dr.kept [false, false] (by kernel_rfl) Kept.nil ?_
  refine Dr.done (by kernel_rfl) ?_
  refine At.then ?_
  refine At.seq ?_
  refine Dr.start rfl ?_
  refine Dr.p 0 rfl rfl (by kernel_rfl) (ev_move rfl) ?_
  refine Dr.p 1 rfl rfl (by kernel_rfl) (ev_move rfl) ?_
  refine Dr.p 2 rfl rfl (by kernel_rfl) (ev_nil rfl) ?_
  refine Dr.p 3 rfl rfl (by kernel_rfl) (ev_field (off := 3) rfl rfl) ?_
  refine Dr.ld 4 rfl rfl (by kernel_rfl) (ev_load1 rfl rfl) (cellIs rfl) ?_
  refine Dr.p 5 rfl rfl (by kernel_rfl) (ev_move rfl) ?_
  refine Dr.p 6 rfl rfl (by kernel_rfl) (ev_nil rfl) ?_
  refine Dr.p 7 rfl rfl (by kernel_rfl) (ev_field (off := 4) rfl rfl) ?_
  refine Dr.ld 8 rfl rfl (by kernel_rfl) (ev_load1 rfl rfl) (cellIs rfl) ?_
  refine Dr.p 9 rfl rfl (by kernel_rfl) (ev_nil rfl) ?_
  refine Dr.p 10 rfl rfl (by kernel_rfl) (ev_field (off := 2) rfl rfl) ?_
  refine Dr.p 11 rfl rfl (by kernel_rfl) (ev_ixAN (i := lv) (z := 64) (o' := 2 + 64 * lv) rfl rfl rfl rfl k1 (by omega)) ?_
  refine Dr.p 12 rfl rfl (by kernel_rfl) (ev_ixAN (i := st) (z := 1) (o' := 2 + k) rfl rfl rfl rfl k2 (by omega)) ?_
  refine Dr.p 13 rfl rfl (by kernel_rfl) (ev_assign rfl) ?_
  refine Dr.done (by kernel_rfl) ?_
  refine At.then ?_
  refine At.seq ?_
  refine Dr.start rfl ?_
  refine Dr.p 0 rfl rfl (by kernel_rfl) (ev_move rfl) ?_
  refine Dr.p 1 rfl rfl (by kernel_rfl) (ev_nil rfl) ?_
  refine Dr.ld 2 rfl rfl (by kernel_rfl) (ev_load1 (v := .slice A (S.bs k).length c) rfl rfl) (cellIs (by rw [wcell_atS _ _ _ _ _ k3, hA])) ?_
  refine Dr.p 3 rfl rfl (by kernel_rfl) (ev_move rfl) ?_
  refine Dr.p 4 rfl rfl (by kernel_rfl) (ev_nil rfl) ?_
  refine Dr.p 5 rfl rfl (by kernel_rfl) (ev_field (off := 2) rfl rfl) ?_
  refine Dr.ld 6 rfl rfl (by kernel_rfl) (ev_load1 rfl rfl) (cellIs rfl) ?_
  refine Dr.run 7 rfl rfl (by kernel_rfl) (o_call rfl rfl rfl hE (search_end hbel (by omega) hsl) (Ent.sel2 (.tail (.head)) (.tail (.tail (.head)))) ?_)
  rintro v m ⟨rfl, rfl⟩
  refine At.app2 ?_
  refine Dr.kept [false, false] (by kernel_rfl) Kept.nil ?_
  refine Dr.p 8 rfl rfl (by kernel_rfl) (ev_move rfl) ?_
  refine Dr.p 9 rfl rfl (by kernel_rfl) (ev_extract rfl rfl) ?_
  refine Dr.p 10 rfl rfl (by kernel_rfl) (ev_extract rfl rfl) ?_
  refine Dr.p 11 rfl rfl (by kernel_rfl) (ev_assign rfl) ?_
  refine Dr.p 12 rfl rfl (by kernel_rfl) (ev_assign rfl) ?_
  refine Dr.done (by kernel_rfl) ?_
  refine At.then ?_
  refine At.seq ?_
  refine At.region ?_
  refine L.mv rfl rfl ?_
  refine L.mv rfl rfl ?_
  refine L.nc rfl rfl ?_
  refine L.val rfl (ev_load1 (v := .slice A (S.bs k).length c) rfl rfl) (cellIs (by rw [wcell_atS _ _ _ _ _ k3, hA])) ?_
  refine L.mv rfl rfl ?_
  refine L.mv rfl rfl ?_
  refine L.op rfl (o_slice1 rfl rfl rfl rfl rfl rfl fun g => ?_)
  refine L.op rfl (o_call rfl rfl rfl hE (insert_end hsl) (Ent.sel2 (.tail (.head)) .head) ?_)
  rintro v m ⟨⟨A', c', rfl⟩, rfl⟩
  refine At.app1 ?_
  refine L.nc rfl rfl ?_
  refine L.st rfl rfl rfl rfl (by rw [wcN_size]; omega) ?_
  rw [wc_set, wcell_slot _ _ _ _ _ k3]
  refine L.nil ?_
  refine At.then ?_
  refine Dr.start rfl ?_
  refine Dr.p 0 rfl rfl (by kernel_rfl) (ev_move rfl) ?_
  refine Dr.p 1 rfl rfl (by kernel_rfl) (ev_move rfl) ?_
  refine Dr.p 2 rfl rfl (by kernel_rfl) (ev_nil rfl) ?_
  refine Dr.p 3 rfl rfl (by kernel_rfl) (ev_field (off := 3) rfl rfl) ?_
  refine Dr.ld 4 rfl rfl (by kernel_rfl) (ev_load1 rfl rfl) (cellIs rfl) ?_
  refine Dr.p 5 rfl rfl (by kernel_rfl) (ev_nil rfl) ?_
  refine Dr.p 6 rfl rfl (by kernel_rfl) (ev_field (off := 706) rfl rfl) ?_
  refine Dr.p 7 rfl rfl (by kernel_rfl) (ev_ixAN (i := lv) (z := 1) (o' := 706 + lv) rfl rfl rfl rfl k1 (by omega)) ?_
  refine Dr.ld 8 rfl rfl (by kernel_rfl) (ev_load1 rfl rfl) (cellIs (wcell_atU _ _ _ _ _ k1)) ?_
  refine Dr.p 9 rfl rfl (by kernel_rfl) (ev_move rfl) ?_
  refine Dr.p 10 rfl rfl (by kernel_rfl) (ev_nil rfl) ?_
  refine Dr.p 11 rfl rfl (by kernel_rfl) (ev_field (off := 4) rfl rfl) ?_
  refine Dr.ld 12 rfl rfl (by kernel_rfl) (ev_load1 rfl rfl) (cellIs rfl) ?_
  refine Dr.p 13 rfl rfl (by kernel_rfl) (ev_shl (r := ((2 ^ st : Nat) : Int)) rfl rfl (by omega) (shl_one k2)) ?_
  refine Dr.p 14 rfl rfl (by kernel_rfl) (ev_or (r := ((S.us lv ||| 2 ^ st : Nat) : Int)) rfl rfl (or_nat hus hp2)) ?_
  refine Dr.p 15 rfl rfl (by kernel_rfl) (ev_nil rfl) ?_
  refine Dr.p 16 rfl rfl (by kernel_rfl) (ev_field (off := 706) rfl rfl) ?_
  refine Dr.p 17 rfl rfl (by kernel_rfl) (ev_ixAN (i := lv) (z := 1) (o' := 706 + lv) rfl rfl rfl rfl k1 (by omega)) ?_
  refine Dr.run 18 rfl rfl (by kernel_rfl) (o_store1 rfl rfl rfl rfl rfl (by rw [wcN_size]; omega) ?_)
  rw [wc_set, wcell_used _ _ _ _ _ k1]
  refine Dr.kept [false, false, false] (by kernel_rfl) Kept.nil ?_
  refine Dr.done (by kernel_rfl) ?_
  rw [hput]
  refine At.end0 [_] rfl ⟨rfl, rfl⟩ ?_
  rw [hby]
  refine (Ent.sel2 (.tail (.head)) (.tail (.tail (.tail (.head))))).trans ((slots_close k3).trans ?_)
  refine (Ent.sel2 (p := tmBlk { t with lvl := lv, slot := st }) (.tail (.tail (.tail (.head)))) (.tail (.tail (.head)))).trans (tmrs_close.trans ?_)
  exact (Ent.sel2 (.tail (.tail (.head))) (.tail (.head))).trans (Ent.closeWheel (S := { S with us := upd S.us lv (S.us lv ||| 2 ^ st), bs := upd S.bs k (S.bs k ++ [t.blk]), tms := a ++ { t with lvl := lv, slot := st } :: b }) (sl := upd sl k _) (mp := mp))

/-! ### the first slot -/
/-- the first slot that is used, or none -/
def IsFirst (us : Nat → Nat) (v : Value) : Prop :=
  ∃ (l s : Nat) (any : Bool), v = .tuple #[.int .i64 (l : Int), .int .i64 (s : Int), .bool any] ∧
    (any = true → l < 11 ∧ s < 64 ∧ (us l).testBit s = true ∧ (∀ j, j < s → (us l).testBit j = false) ∧ ∀ k, k < l → us k = 0) ∧ (any = false → ∀ k, k < 11 → us k = 0)
def usV (us : Nat → Nat) : List Value := (List.range 11).map fun l => .int .u64 (us l)
theorem usV_at (us : Nat → Nat) {l : Nat} (h : l < 11) : (usV us)[l]? = some (.int .u64 (us l)) := by simp [usV, h]
theorem usV_lt (us : Nat → Nat) {l : Nat} {v : Value} (h : (usV us)[l]? = some v) : l < 11 := by
  have := (List.getElem?_eq_some_iff.1 h).1
  simpa [usV] using this

set_option maxRecDepth 10000 in
set_option maxHeartbeats 1000000 in
theorem first_does (w now seq : Nat) (sl : Nat → Value) (us : Nat → Nat) (mp : Nat) (hus : ∀ l, l < 11 → us l < 18446744073709551616) :
    Does Tryd.prog Good 64 [ptr w].toArray [blk w 115 (wc (wcell now seq sl us mp))] fun v m => IsFirst us v ∧ m = [blk w 115 (wc (wcell now seq sl us mp))] := by
  refine Does.body Tryd.func64 rfl rfl fun E fr hE => ?_
  refine At.app1 ?_
  refine At.seq ?_
  refine At.region ?_
  refine L.as rfl rfl ?_
  refine L.as rfl rfl ?_
  refine L.as rfl rfl ?_
  refine L.nil ?_
  refine At.then ?_
  refine At.seq ?_
  refine At.seq ?_
  refine At.region ?_
  refine L.mv rfl rfl ?_
  refine L.nc rfl rfl ?_
  refine L.fa 706 rfl rfl rfl ?_
  refine L.val rfl (ev_loadN (n := 11) (vs := usV us) rfl rfl (by simp [usV]) rfl) (rowIs (fun j v hj => by have hl := usV_lt us hj; rw [usV_at us hl] at hj; injection hj with hj; subst hj; exact wcell_atU _ _ _ _ _ hl)) ?_
  refine L.mv rfl rfl ?_
  refine L.nil ?_
  refine At.then ?_
  refine At.block ?_
  refine At.loop (X := Nat) (fun i => [(11, .int .i64 i), (10, .agg (usV us).toArray), (0, ptr w)]) (fun _ => blk w 115 (wc (wcell now seq sl us mp)) :: fr) (fun i => i ≤ 11 ∧ ∀ k, k < i → us k = 0) (fun i => 11 - i) 0 ⟨by omega, by simp⟩ ⟨rfl, rfl, rfl, trivial⟩ (Ent.refl _) ?_
  rintro i ⟨hi, hno⟩
  refine At.seq ?_
  refine At.region ?_
  refine L.pure rfl (ev_lss rfl rfl rfl) ?_
  refine L.nil ?_
  refine At.then ?_
  refine At.seq ?_
  refine At.condD rfl (fun c12 => ?_) (fun c12 => ?_)
  ·
    have hlt : i < 11 := by omega
    have hui := hus i hlt
    refine At.skip ?_
    refine At.then ?_
    refine At.seq ?_
    refine At.block ?_
    refine At.seq ?_
    refine At.region ?_
    refine L.mv rfl rfl ?_
    refine L.pure rfl (ev_index (v := .int .u64 (us i)) rfl rfl rfl rfl rfl hlt (by simpa using usV_at us hlt)) ?_
    refine L.as rfl rfl ?_
    refine L.as rfl rfl ?_
    refine L.nil ?_
    refine At.then ?_
    refine At.seq ?_
    refine At.region ?_
    refine L.mv rfl rfl ?_
    refine L.pure rfl (ev_neq rfl rfl rfl) ?_
    refine L.nil ?_
    refine At.then ?_
    refine At.condD rfl (fun c16 => ?_) (fun c16 => ?_)
    ·
      have hne : us i ≠ 0 := by omega
      have hlow := ctz_low (us i) hui hne
      refine At.seq ?_
      refine At.region ?_
      refine L.mv rfl rfl ?_
      refine L.mv rfl rfl ?_
      refine L.op rfl (o_read rfl rfl rfl (fun w hw => (tz64_calls (us i) hui hne w (hE.tab w hw.is)).mono fun e w' ⟨he, hw'⟩ => ⟨_, he, (rfl : _ = Value.int .i64 ((Lib.ctz 64 (us i) : Nat) : Int)), hw' ▸ Below.refl _ _⟩) ?_)
      rintro v rfl
      refine L.as rfl rfl ?_
      refine L.as rfl rfl ?_
      refine L.as rfl rfl ?_
      refine L.nil ?_
      refine At.then ?_
      refine At.ret ?_
      refine At.inBlockRet (At.thenRet (At.roundRet (At.inBlockRet (At.thenRet ?_))))
      exact At.ret3 [_] rfl rfl rfl rfl ⟨⟨i, _, true, rfl, (fun _ => ⟨hlt, hlow.2.2, hlow.1, hlow.2.1, hno⟩), (fun h => by cases h)⟩, rfl⟩ (Ent.refl _)
    ·
      refine At.skip ?_
      refine At.inBlock (At.then ?_)
      refine At.region ?_
      refine L.pure rfl (ev_add rfl rfl (w64 (by omega))) ?_
      refine L.mv rfl rfl ?_
      refine L.nil ?_
      exact At.round (i + 1) ⟨by omega, fun k hk => by rcases Nat.lt_or_ge k i with h | h; exact hno k h; obtain rfl : k = i := (by omega); omega⟩ (by omega) ⟨rfl, rfl, rfl, trivial⟩ (Ent.refl _)
  ·
    refine At.exit ?_
    refine At.thenExit (At.roundExit (At.inBlockHit (At.then ?_)))
    refine At.seq ?_
    refine At.region ?_
    refine L.as rfl rfl ?_
    refine L.as rfl rfl ?_
    refine L.as rfl rfl ?_
    refine L.nil ?_
    refine At.then ?_
    refine At.ret ?_
    exact At.ret3 [_] rfl rfl rfl rfl ⟨⟨0, 0, false, rfl, (fun h => by cases h), fun _ k hk => hno k (by omega)⟩, rfl⟩ (Ent.refl _)
end Go.Proofs.YtagkobkmaigfcaaDoor

/- A timer dropped. -/
namespace Go.SL
open Go Go.RowKit
section
variable {P : Program} {ts : List (Nat × Value)}
theorem ev_lookY {t kt et : TypeId} {x y : Operand} {k : IntKind} {b : Nat} {m : List (Int × Value)} {a : Int} {z v : Value} (ht : P.underlying t = some (.map kt et)) (hk : P.underlying kt = some (.int k)) (hz : zeroIs P et z) (hx : ev ts x = some (.map (some b))) (hy : ev ts y = some (.int k a)) (hv : assoc m a = some v) :
    Ev P ts (.lookup t x y true) (.tuple #[v, .bool true]) (MapIs k b m) := by
  have := ev_look (P := P) (m := m) ht hk hz hx hy
  rw [hv] at this
  exact this
theorem ev_lookN {t kt et : TypeId} {x y : Operand} {k : IntKind} {b : Nat} {m : List (Int × Value)} {a : Int} {z : Value} (ht : P.underlying t = some (.map kt et)) (hk : P.underlying kt = some (.int k)) (hz : zeroIs P et z) (hx : ev ts x = some (.map (some b))) (hy : ev ts y = some (.int k a)) (hv : assoc m a = none) :
    Ev P ts (.lookup t x y true) (.tuple #[z, .bool false]) (MapIs k b m) := by
  have := ev_look (P := P) (m := m) ht hk hz hx hy
  rw [hv] at this
  exact this
end
end Go.SL
namespace Go.Proofs.YtagkobkmaigfcaaDoor
open Go Go.RowKit Go.SL
open FK (upd upd_at upd_off)

theorem by_some {a b : List FK.Tmr} {t : FK.Tmr} (h : ((a ++ t :: b).map FK.Tmr.key).Nodup) : assoc (byOf (a ++ t :: b)) t.key = some (ptr t.blk) := by
  have ha := (FK.nodup_mid h).1
  unfold assoc byOf
  rw [List.map_append, List.find?_append]
  have : (a.map fun t => (t.key, ptr t.blk)).find? (·.1 == t.key) = none := by
    rw [List.find?_eq_none]
    intro p hp
    obtain ⟨u, hu, rfl⟩ := List.mem_map.1 hp
    simpa using ha u hu
  rw [this]
  simp
theorem by_none {l : List FK.Tmr} {k : Int} (h : k ∉ l.map FK.Tmr.key) : assoc (byOf l) k = none := by
  unfold assoc byOf
  rw [Option.map_eq_none_iff, List.find?_eq_none]
  intro p hp
  obtain ⟨u, hu, rfl⟩ := List.mem_map.1 hp
  have : u.key ≠ k := fun e => h (e ▸ List.mem_map_of_mem hu)
  simpa using this
theorem by_del {a b : List FK.Tmr} {t : FK.Tmr} (h : ((a ++ t :: b).map FK.Tmr.key).Nodup) : (byOf (a ++ t :: b)).eraseP (·.1 == t.key) = byOf (a ++ b) := by
  have ha := (FK.nodup_mid h).1
  unfold byOf
  rw [List.map_append, List.map_append, List.eraseP_append_right, List.map_cons, List.eraseP_cons_of_pos]
  · simp
  · intro p hp
    obtain ⟨u, hu, rfl⟩ := List.mem_map.1 hp
    simpa using ha u hu
theorem erase_nodup : ∀ {l : List Nat} {i x : Nat}, l.Nodup → l[i]? = some x → l.erase x = l.eraseIdx i
  | [], _, _, _, h => by simp at h
  | y :: l, 0, x, _, h => by
    simp at h; subst h
    simp
  | y :: l, i + 1, x, hn, h => by
    rw [List.nodup_cons] at hn
    have hm : x ∈ l := List.mem_of_getElem? (by simpa using h)
    have hyx : (y == x) = false := by
      simp only [beq_eq_false_iff_ne]
      rintro rfl
      exact hn.1 hm
    rw [List.erase_cons_tail (by simp [hyx]), List.eraseIdx_cons_succ, erase_nodup hn.2 (by simpa using h)]
theorem slot_nodup {S : FK.WS} {un : List Nat} (h : FK.Inv S un) {i : Nat} (hi : i < 704) : (S.bs i).Nodup := by
  rw [h.slot i hi]
  exact h.blks.sublist (List.filter_sublist.map _)

set_option maxRecDepth 10000 in
theorem drop_none {G : Env → Prop} {S : FK.WS} (w : Nat) (k : Int) (hk : k ∉ S.tms.map FK.Tmr.key) :
    Does Tryd.prog G 63 [ptr w, .int .i64 k].toArray [wheelAt w S] fun v m => v = .tuple #[] ∧ m = [wheelAt w S] := by
  refine Does.body Tryd.func63 rfl rfl fun E fr hE => ?_
  refine At.app1 ?_
  refine At.openWheel .head fun sl mp => ?_
  refine At.seq ?_
  refine At.region ?_
  refine L.mv rfl rfl ?_
  refine L.nc rfl rfl ?_
  refine L.fa 717 rfl rfl rfl ?_
  refine L.val rfl (ev_load1 rfl rfl) (cellIs (wcell_atM _ _ _ _ _)) ?_
  refine L.mv rfl rfl ?_
  refine L.val rfl (ev_lookN rfl rfl rfl rfl rfl (by_none hk)) (imapIs (.tail (.tail (.tail (.head))))) ?_
  refine L.mv rfl rfl ?_
  refine L.ex rfl rfl rfl ?_
  refine L.ex rfl rfl rfl ?_
  refine L.op rfl (o_alloc (z := .pointer none) rfl rfl fun b4 => ?_)
  refine L.st rfl rfl rfl rfl (by first | decide | simp | (simp; omega)) ?_
  refine L.as rfl rfl ?_
  refine L.nil ?_
  refine At.then ?_
  refine At.seq ?_
  refine At.seq ?_
  refine At.region ?_
  refine L.mv rfl rfl ?_
  refine L.pure rfl (ev_not rfl rfl) ?_
  refine L.nil ?_
  refine At.then ?_
  refine At.condT rfl ?_
  refine At.ret ?_
  refine At.thenRet ?_
  exact At.ret0 [_] rfl ⟨rfl, rfl⟩ (Ent.drop.trans (Ent.closeWheel (S := S) (sl := sl) (mp := mp)))

set_option maxRecDepth 10000 in
set_option maxHeartbeats 1000000 in
theorem drop_some {G : Env → Prop} {S : FK.WS} {a b : List FK.Tmr} {t : FK.Tmr} (w : Nat) (h : FK.Inv S []) (hS : S.tms = a ++ t :: b) (hln : S.tms.length ≤ 99999) :
    Does Tryd.prog G 63 [ptr w, .int .i64 t.key].toArray [wheelAt w S] fun v m => v = .tuple #[] ∧ m = [wheelAt w (S.drop a t b), tmBlk t] := by
  have htm : t ∈ S.tms := by rw [hS]; simp
  obtain ⟨k1, k2⟩ := h.lvl' htm (by simp)
  have k3 := h.pos htm (by simp)
  obtain ⟨k, hk⟩ : ∃ k, k = t.pos := ⟨_, rfl⟩
  have hkl : k = 64 * t.lvl + t.slot := hk
  have hin : t.blk ∈ S.bs k := by rw [hk]; exact h.mem_slot htm (by simp)
  rw [← hk] at k3
  have hus := h.uslt t.lvl k1
  have hsl := slot_len h (by omega) k3
  have hnd := slot_nodup h k3
  obtain ⟨i, hil, hi⟩ := List.getElem_of_mem hin
  have hi? : (S.bs k)[i]? = some t.blk := by rw [List.getElem?_eq_getElem hil, hi]
  have hne : ∀ j, j ≠ i → (S.bs k)[j]? ≠ some t.blk := fun j hj e => by
    obtain ⟨hjl, hje⟩ := List.getElem?_eq_some_iff.1 e
    exact hj ((List.getElem_inj hnd).1 (hje.trans hi.symm))
  have her : (S.bs k).erase t.blk = (S.bs k).eraseIdx i := by
    exact erase_nodup hnd hi?
  have hbl : Blks (tmrs S.tms) (S.bs k) := tmrs_blks fun x hx => by
    obtain ⟨u, hu, e, _⟩ := h.of_slot k3 hx
    exact ⟨u, hu, e⟩
  have hp2 : (2 : Nat) ^ t.slot < 18446744073709551616 := Nat.pow_lt_pow_right (a := 2) (m := t.slot) (n := 64) (by omega) k2
  have hkeys := h.keys
  rw [hS] at hkeys
  refine Does.body Tryd.func63 rfl rfl fun E fr hE => ?_
  refine At.app1 ?_
  refine At.openWheel .head fun sl mp => ?_
  refine At.ent (l' := ptrsAt (sl k) (S.bs k) :: slotsBut sl S.bs k :: whl w S sl mp :: tmrs S.tms :: imap .i64 mp (byOf (a ++ t :: b)) :: fr) ?_ ?_
  · refine (Ent.perm (List.Perm.swap _ _ _)).trans ((slots_open k3).trans (Ent.cons (Ent.cons ?_)))
    rw [← hS]
    exact Ent.refl _
  refine At.formRow .head ?_
  intro A c hA hnil hform hc1 hc2 _
  rw [hA]
  refine At.seq ?_
  refine At.region ?_
  refine L.mv rfl rfl ?_
  refine L.nc rfl rfl ?_
  refine L.fa 717 rfl rfl rfl ?_
  refine L.val rfl (ev_load1 rfl rfl) (cellIs (wcell_atM _ _ _ _ _)) ?_
  refine L.mv rfl rfl ?_
  refine L.val rfl (ev_lookY rfl rfl rfl rfl rfl (by_some hkeys)) (imapIs (.tail (.tail (.tail (.tail (.head)))))) ?_
  refine L.mv rfl rfl ?_
  refine L.ex rfl rfl rfl ?_
  refine L.ex rfl rfl rfl ?_
  refine L.op rfl (o_alloc (z := .pointer none) rfl rfl fun b4 => ?_)
  refine L.st rfl rfl rfl rfl (by first | decide | simp | (simp; omega)) ?_
  refine At.ent (l' := blk _ 124 #[ptr t.blk] :: _) (Ent.refl _) ?_
  refine L.as rfl rfl ?_
  refine L.nil ?_
  refine At.then ?_
  refine At.seq ?_
  refine At.seq ?_
  refine At.region ?_
  refine L.mv rfl rfl ?_
  refine L.pure rfl (ev_not rfl rfl) ?_
  refine L.nil ?_
  refine At.then ?_
  refine At.condF rfl ?_
  refine At.skip ?_
  refine At.then ?_
  refine At.seq ?_
  refine At.region ?_
  refine L.mv rfl rfl ?_
  refine L.nc rfl rfl ?_
  refine L.fa 717 rfl rfl rfl ?_
  refine L.val rfl (ev_load1 rfl rfl) (cellIs (wcell_atM _ _ _ _ _)) ?_
  refine L.mv rfl rfl ?_
  refine L.op rfl (o_mapDel rfl rfl rfl rfl rfl (.tail (.tail (.tail (.tail (.tail (.head)))))) ?_)
  rw [by_del hkeys]
  refine L.nil ?_
  refine At.then ?_
  refine At.seq ?_
  refine Dr.start rfl ?_
  refine Dr.p 0 rfl rfl (by kernel_rfl) (ev_move rfl) ?_
  refine Dr.ld 1 rfl rfl (by kernel_rfl) (ev_load1 rfl rfl) (cellIs rfl) ?_
  refine Dr.p 2 rfl rfl (by kernel_rfl) (ev_nil rfl) ?_
  refine Dr.p 3 rfl rfl (by kernel_rfl) (ev_field (off := 3) rfl rfl) ?_
  refine Dr.ld 4 rfl rfl (by kernel_rfl) (ev_load1 rfl rfl) (tmCell (.tail (.tail (.tail (.tail (.tail (.head)))))) htm rfl) ?_
  refine Dr.ld 5 rfl rfl (by kernel_rfl) (ev_load1 rfl rfl) (cellIs rfl) ?_
  refine Dr.p 6 rfl rfl (by kernel_rfl) (ev_nil rfl) ?_
  refine Dr.p 7 rfl rfl (by kernel_rfl) (ev_field (off := 4) rfl rfl) ?_
  refine Dr.ld 8 rfl rfl (by kernel_rfl) (ev_load1 rfl rfl) (tmCell (.tail (.tail (.tail (.tail (.tail (.head)))))) htm rfl) ?_
  refine Dr.p 9 rfl rfl (by kernel_rfl) (ev_nil rfl) ?_
  refine Dr.p 10 rfl rfl (by kernel_rfl) (ev_field (off := 2) rfl rfl) ?_
  refine Dr.p 11 rfl rfl (by kernel_rfl) (ev_ixAN (i := t.lvl) (z := 64) (o' := 2 + 64 * t.lvl) rfl rfl rfl rfl k1 (by omega)) ?_
  refine Dr.p 12 rfl rfl (by kernel_rfl) (ev_ixAN (i := t.slot) (z := 1) (o' := 2 + k) rfl rfl rfl rfl k2 (by omega)) ?_
  refine Dr.p 13 rfl rfl (by kernel_rfl) (ev_assign rfl) ?_
  refine Dr.done (by kernel_rfl) ?_
  refine At.then ?_
  refine At.seq ?_
  refine At.region ?_
  refine L.mv rfl rfl ?_
  refine L.mv rfl rfl ?_
  refine L.nc rfl rfl ?_
  refine L.val rfl (ev_load1 (v := .slice A (S.bs k).length c) rfl rfl) (cellIs (by rw [wcell_atS _ _ _ _ _ k3, hA])) ?_
  refine L.pure rfl (ev_func rfl rfl) ?_
  refine L.op rfl (o_call rfl rfl rfl hE (delete_one hbl hi? hne hsl) (Ent.sel3 (.tail (.tail (.head))) (.tail (.head)) (.tail (.tail (.tail (.head))))) ?_)
  rintro v m ⟨⟨A', c', rfl⟩, rfl⟩
  refine At.app3 ?_
  refine L.nc rfl rfl ?_
  refine L.st rfl rfl rfl rfl (by rw [wcN_size]; omega) ?_
  rw [wc_set, wcell_slot _ _ _ _ _ k3]
  refine L.nil ?_
  refine At.then ?_
  refine At.seq ?_
  refine At.region ?_
  refine L.mv rfl rfl ?_
  refine L.nc rfl rfl ?_
  refine L.val rfl (ev_load1 (v := .slice A' ((S.bs k).eraseIdx i).length c') rfl rfl) (cellIs (by rw [wcell_atS _ _ _ _ _ k3, upd_at])) ?_
  refine L.pure rfl (ev_lenS rfl rfl) ?_
  refine L.pure rfl (ev_eql rfl rfl rfl) ?_
  refine L.nil ?_
  refine At.then ?_
  refine At.condD rfl (fun c47 => ?_) (fun c47 => ?_)
  ·
    have he : (S.bs k).eraseIdx i = [] := List.eq_nil_of_length_eq_zero (by omega)
    have hdrop : S.drop a t b = { S with us := upd S.us t.lvl (FK.clr (S.us t.lvl) t.slot), bs := upd S.bs k ((S.bs k).eraseIdx i), tms := a ++ b } := by
      unfold FK.WS.drop
      rw [← hk, her, if_pos he]
    refine Dr.start rfl ?_
    refine Dr.p 0 rfl rfl (by kernel_rfl) (ev_move rfl) ?_
    refine Dr.ld 1 rfl rfl (by kernel_rfl) (ev_load1 rfl rfl) (cellIs rfl) ?_
    refine Dr.p 2 rfl rfl (by kernel_rfl) (ev_nil rfl) ?_
    refine Dr.p 3 rfl rfl (by kernel_rfl) (ev_field (off := 3) rfl rfl) ?_
    refine Dr.ld 4 rfl rfl (by kernel_rfl) (ev_load1 rfl rfl) (tmCell (.tail (.tail (.tail (.head)))) htm rfl) ?_
    refine Dr.p 5 rfl rfl (by kernel_rfl) (ev_nil rfl) ?_
    refine Dr.p 6 rfl rfl (by kernel_rfl) (ev_field (off := 706) rfl rfl) ?_
    refine Dr.p 7 rfl rfl (by kernel_rfl) (ev_ixAN (i := t.lvl) (z := 1) (o' := 706 + t.lvl) rfl rfl rfl rfl k1 (by omega)) ?_
    refine Dr.ld 8 rfl rfl (by kernel_rfl) (ev_load1 rfl rfl) (cellIs (wcell_atU _ _ _ _ _ k1)) ?_
    refine Dr.ld 9 rfl rfl (by kernel_rfl) (ev_load1 rfl rfl) (cellIs rfl) ?_
    refine Dr.p 10 rfl rfl (by kernel_rfl) (ev_nil rfl) ?_
    refine Dr.p 11 rfl rfl (by kernel_rfl) (ev_field (off := 4) rfl rfl) ?_
    refine Dr.ld 12 rfl rfl (by kernel_rfl) (ev_load1 rfl rfl) (tmCell (.tail (.tail (.tail (.head)))) htm rfl) ?_
    refine Dr.p 13 rfl rfl (by kernel_rfl) (ev_shl (r := ((2 ^ t.slot : Nat) : Int)) rfl rfl (by omega) (shl_one k2)) ?_
    refine Dr.p 14 rfl rfl (by kernel_rfl) (ev_andNot (r := ((FK.clr (S.us t.lvl) t.slot : Nat) : Int)) rfl rfl (clr_nat hus k2)) ?_
    refine Dr.p 15 rfl rfl (by kernel_rfl) (ev_nil rfl) ?_
    refine Dr.p 16 rfl rfl (by kernel_rfl) (ev_field (off := 706) rfl rfl) ?_
    refine Dr.p 17 rfl rfl (by kernel_rfl) (ev_ixAN (i := t.lvl) (z := 1) (o' := 706 + t.lvl) rfl rfl rfl rfl k1 (by omega)) ?_
    refine Dr.run 18 rfl rfl (by kernel_rfl) (o_store1 rfl rfl rfl rfl rfl (by rw [wcN_size]; omega) ?_)
    rw [wc_set, wcell_used _ _ _ _ _ k1]
    refine Dr.kept [false, false, false, false, false] (by kernel_rfl) Kept.nil ?_
    refine Dr.done (by kernel_rfl) ?_
    rw [hdrop]
    refine At.end0 [_, _] rfl ⟨rfl, rfl⟩ ?_
    rw [hS]
    refine (Ent.drop1 (.tail (.tail (.head)))).trans ((Ent.sel2 (.tail (.head)) (.tail (.tail (.tail (.head))))).trans ((slots_close k3).trans ?_))
    refine (Ent.sel (.tail (.tail (.head)))).trans (tmrs_open.trans ?_)
    exact ((Ent.sel3 (.tail (.tail (.tail (.head)))) (.tail (.tail (.head))) (.tail (.head))).trans (Ent.cons (Ent.cons (Ent.cons (Ent.perm (List.Perm.swap _ _ _)))))).trans (Ent.closeWheel (S := { S with us := upd S.us t.lvl (FK.clr (S.us t.lvl) t.slot), bs := upd S.bs k ((S.bs k).eraseIdx i), tms := a ++ b }) (sl := upd sl k _) (mp := mp))
  ·
    have he : ¬ (S.bs k).eraseIdx i = [] := fun e => c47 (by rw [e]; rfl)
    have hdrop : S.drop a t b = { S with us := S.us, bs := upd S.bs k ((S.bs k).eraseIdx i), tms := a ++ b } := by
      unfold FK.WS.drop
      rw [← hk, her, if_neg he]
    refine At.skip ?_
    rw [hdrop]
    refine At.end0 [_, _] rfl ⟨rfl, rfl⟩ ?_
    rw [hS]
    refine (Ent.drop1 (.tail (.tail (.head)))).trans ((Ent.sel2 (.tail (.head)) (.tail (.tail (.tail (.head))))).trans ((slots_close k3).trans ?_))
    refine (Ent.sel (.tail (.tail (.head)))).trans (tmrs_open.trans ?_)
    exact ((Ent.sel3 (.tail (.tail (.tail (.head)))) (.tail (.tail (.head))) (.tail (.head))).trans (Ent.cons (Ent.cons (Ent.cons (Ent.perm (List.Perm.swap _ _ _)))))).trans (Ent.closeWheel (S := { S with us := S.us, bs := upd S.bs k ((S.bs k).eraseIdx i), tms := a ++ b }) (sl := upd sl k _) (mp := mp))
end Go.Proofs.YtagkobkmaigfcaaDoor
