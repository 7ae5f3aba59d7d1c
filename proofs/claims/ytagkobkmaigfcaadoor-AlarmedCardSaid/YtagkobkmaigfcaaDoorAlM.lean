/- What is due first, up to a time. -/
import Derived.Test.YtagkobkmaigfcaaDoorAlL
import Derived.Test.YtagkobkmaigfcaaDoorAlB
namespace Go.Proofs.YtagkobkmaigfcaaDoor
open Go Go.RowKit Go.SL
open FK (upd upd_at upd_off)

theorem shr_lv {x l : Nat} (hx : x ≤ 4611686018427387904) (hl : l < 11) : ((x : Int)).fdiv (2 ^ min (((6 * (l + 1) : Nat) : Int)).toNat IntKind.u64.bits) = ((x / 64 ^ (l + 1) : Nat) : Int) := by
  rw [FK.pow64]
  by_cases h : 6 * (l + 1) ≤ 64
  · exact shr_nat x _ (by omega) h
  · obtain rfl : l = 10 := by omega
    have h1 : min (((6 * (10 + 1) : Nat) : Int)).toNat IntKind.u64.bits = 64 := rfl
    rw [h1, Int.fdiv_eq_ediv_of_nonneg _ (Int.le_of_lt (Int.pow_pos (by omega)))]
    have h2 : x / 2 ^ (6 * (10 + 1)) = 0 := Nat.div_eq_of_lt (by omega)
    rw [h2]
    omega
theorem shl_lv {x l : Nat} (hx : x ≤ 4611686018427387904) (hl : l < 11) : IntKind.u64.wrap (((x / 64 ^ (l + 1) : Nat) : Int) * 2 ^ min (((6 * (l + 1) : Nat) : Int)).toNat IntKind.u64.bits) = ((x / 64 ^ (l + 1) * 64 ^ (l + 1) : Nat) : Int) := by
  have hle := Nat.div_mul_le_self x (64 ^ (l + 1))
  by_cases h : 6 * (l + 1) ≤ 64
  · have h1 : min (((6 * (l + 1) : Nat) : Int)).toNat IntKind.u64.bits = 6 * (l + 1) := by
      show min (((6 * (l + 1) : Nat) : Int)).toNat 64 = _
      omega
    have h3 : ((x / 64 ^ (l + 1) : Nat) : Int) * 2 ^ (6 * (l + 1)) = ((x / 64 ^ (l + 1) * 64 ^ (l + 1) : Nat) : Int) := by
      rw [Int.natCast_mul, FK.pow64 (l + 1)]
      congr 1
    rw [h1, h3]
    exact wu64 (by omega)
  · obtain rfl : l = 10 := by omega
    have h2 : x / 64 ^ (10 + 1) = 0 := Nat.div_eq_of_lt (by omega)
    rw [h2]
    simp [mu64]
theorem shl_sl {s l : Nat} (hs : s * 64 ^ l ≤ 4611686018427387904) (hl : l < 11) : IntKind.u64.wrap ((s : Int) * 2 ^ min (((6 * l : Nat) : Int)).toNat IntKind.u64.bits) = ((s * 64 ^ l : Nat) : Int) := by
  have h1 : min (((6 * l : Nat) : Int)).toNat IntKind.u64.bits = 6 * l := by
    show min (((6 * l : Nat) : Int)).toNat 64 = _
    omega
  have h3 : (s : Int) * 2 ^ (6 * l) = ((s * 64 ^ l : Nat) : Int) := by
    rw [Int.natCast_mul, FK.pow64 l]
    congr 1
  rw [h1, h3]
  exact wu64 (by omega)
theorem or_start {x l s : Nat} (hs : s < 64) : x / 64 ^ (l + 1) * 64 ^ (l + 1) ||| s * 64 ^ l = FK.startOf x l s := by
  have h1 : s * 64 ^ l < 2 ^ (6 * (l + 1)) := by
    rw [← FK.pow64, Nat.pow_succ, Nat.mul_comm (64 ^ l)]
    exact Nat.mul_lt_mul_of_pos_right hs (Nat.pow_pos (by omega))
  unfold FK.startOf
  rw [FK.pow64 (l + 1), Nat.mul_comm (x / 2 ^ (6 * (l + 1)))]
  exact (Nat.two_pow_add_eq_or_of_lt h1 _).symm

theorem upd_self {α : Type} (f : Nat → α) (i : Nat) : upd f i (f i) = f := by
  funext j
  by_cases h : j = i
  · subst h; exact upd_at _ _ _
  · exact upd_off _ _ h
theorem slots_reclose {sl : Nat → Value} {bs : Nat → List Nat} {i : Nat} {v : Value} (hi : i < 704) (hv : sl i = v) {fr : List HP} : Ent (ptrsAt v (bs i) :: slotsBut sl bs i :: fr) (slots sl bs :: fr) := by
  have := slots_close (sl := sl) (bs := bs) (v := v) (b := bs i) (fr := fr) hi
  rwa [← hv, upd_self, upd_self, hv] at this

/-- what a wheel answers -/
def PopR (w : Nat) (S : FK.WS) (up : Nat) (v : Value) (m : List HP) : Prop :=
  (∃ (S' : FK.WS) (x : Int × Nat), FK.IsMin (S.tms.map FK.kd) x (S'.tms.map FK.kd) ∧ x.2 ≤ up ∧ FK.Inv S' [] ∧ S'.now = x.2 ∧ S'.seq = S.seq ∧ v = .tuple #[.int .i64 x.1, .int .u64 x.2, .bool true] ∧ m = [wheelAt w S']) ∨
  (∃ S' : FK.WS, (∀ y ∈ S.tms.map FK.kd, up < y.2) ∧ S'.tms.map FK.kd = S.tms.map FK.kd ∧ FK.Inv S' [] ∧ S'.now = up ∧ S'.seq = S.seq ∧ v = .tuple #[.int .i64 0, .int .u64 0, .bool false] ∧ m = [wheelAt w S'])

theorem kd_len {a b : List FK.Tmr} (h : a.map FK.kd = b.map FK.kd) : a.length = b.length := by
  have := congrArg List.length h
  simpa using this
theorem kd_put {S : FK.WS} {a b : List FK.Tmr} {t : FK.Tmr} (h : S.tms = a ++ t :: b) : (S.put a t b).tms.map FK.kd = S.tms.map FK.kd := by
  rw [h]
  simp [FK.WS.put, FK.kd, FK.Tmr.place]

set_option maxRecDepth 10000 in
set_option maxHeartbeats 4000000 in
theorem pop_does {S : FK.WS} (w up : Nat) (h : FK.Inv S []) (hto : S.now ≤ up) (hto62 : up ≤ 4611686018427387904) (hsq : S.seq < 9223372036854775808) (hln : S.tms.length ≤ 99999) :
    Does Tryd.prog Good 47 [ptr w, .int .u64 up].toArray [wheelAt w S] (PopR w S up) := by
  refine Does.body Tryd.func47 rfl rfl fun E fr hE => ?_
  refine At.app1 ?_
  refine At.seq ?_
  refine At.region ?_
  refine L.as rfl rfl ?_
  refine L.as rfl rfl ?_
  refine L.as rfl rfl ?_
  refine L.nil ?_
  refine At.then ?_
  refine At.seq ?_
  refine At.block ?_
  refine At.loop (X := FK.WS × Nat) (fun p => [(0, ptr w), (1, .int .u64 up), (4, .int .i64 0)]) (fun p => wheelAt w p.1 :: fr) (fun p => FK.Inv p.1 [] ∧ p.1.now ≤ up ∧ p.1.seq = S.seq ∧ p.1.tms.map FK.kd = S.tms.map FK.kd ∧ (p.1.tms = [] ∨ ∃ t ∈ p.1.tms, t.lvl < p.2)) (fun p => p.2) (S, 11) ⟨h, hto, rfl, rfl, by
  cases hc : S.tms with
  | nil => exact .inl rfl
  | cons t l => exact .inr ⟨t, by simp, (h.lvl' (t := t) (by rw [hc]; simp) (by simp)).1⟩⟩ ⟨rfl, rfl, rfl, trivial⟩ (Ent.refl _) ?_
  rintro ⟨T, B⟩ ⟨hT, hTup, hTsq, hkd, hB⟩
  replace hT : FK.Inv T [] := hT
  replace hTup : T.now ≤ up := hTup
  replace hTsq : T.seq = S.seq := hTsq
  replace hkd : T.tms.map FK.kd = S.tms.map FK.kd := hkd
  have hTln : T.tms.length ≤ 99999 := by rw [kd_len hkd]; exact hln
  refine At.openWheel .head fun sl mp => ?_
  refine At.block ?_
  refine At.seq ?_
  refine At.region ?_
  refine L.mv rfl rfl ?_
  refine L.op rfl (o_call rfl rfl rfl hE (first_does w T.now T.seq sl T.us mp hT.uslt) (Ent.refl _) ?_)
  rintro v m ⟨⟨l, s, any, rfl, hany, hnone⟩, rfl⟩
  refine At.app1 ?_
  refine L.mv rfl rfl ?_
  refine L.ex rfl rfl rfl ?_
  refine L.ex rfl rfl rfl ?_
  refine L.ex rfl rfl rfl ?_
  refine L.as rfl rfl ?_
  refine L.as rfl rfl ?_
  refine L.as rfl rfl ?_
  refine L.nil ?_
  refine At.then ?_
  refine At.seq ?_
  refine At.seq ?_
  refine At.region ?_
  refine L.mv rfl rfl ?_
  refine L.pure rfl (ev_not rfl rfl) ?_
  refine L.nil ?_
  refine At.then ?_
  refine At.cond rfl (fun c23 => ?_) (fun c23 => ?_)
  ·
    have ha : any = false := by simpa using c23
    have hst := hT.stay hTup hto62 (.inl (hT.none (hnone ha)))
    refine At.exit ?_
    refine At.thenExit (At.inBlockMiss rfl (At.roundExit (At.inBlockHit (At.then ?_))))
    refine At.seq ?_
    refine At.region ?_
    refine L.mv rfl rfl ?_
    refine L.mv rfl rfl ?_
    refine L.nc rfl rfl ?_
    refine L.fa 0 rfl rfl rfl ?_
    refine L.val rfl (ev_load1 rfl rfl) (cellIs (wcell_at0 _ _ _ _ _)) ?_
    refine L.mv rfl rfl ?_
    refine L.pure rfl (ev_max (r := (up : Int)) rfl rfl (by omega)) ?_
    refine L.nc rfl rfl ?_
    refine L.fa 0 rfl rfl rfl ?_
    refine L.st rfl rfl rfl rfl (by rw [wcN_size]; omega) ?_
    rw [wc_set, wcell_now]
    refine L.nil ?_
    refine At.then ?_
    refine At.seq ?_
    refine At.region ?_
    refine L.mv rfl rfl ?_
    refine L.as rfl rfl ?_
    refine L.as rfl rfl ?_
    refine L.as rfl rfl ?_
    refine L.nil ?_
    refine At.then ?_
    refine At.ret ?_
    skip
    have hall : ∀ y ∈ S.tms.map FK.kd, up < y.2 := fun y hy => by
      rw [← hkd] at hy
      obtain ⟨u, hu, rfl⟩ := List.mem_map.1 hy
      exact hst.2 u hu
    exact At.ret3 [_] rfl rfl rfl rfl (.inr ⟨{ T with now := up }, hall, hkd, hst.1, rfl, hTsq, rfl, rfl⟩) (Ent.closeWheel (S := { T with now := up }) (sl := sl) (mp := mp))
  ·
    have ha : any = true := by simpa using c23
    obtain ⟨hl, hs, hb1, hb2, hb3⟩ := hany ha
    have hf : FK.Fst T l s := hT.fst hl hs hb1 hb2 hb3
    have hk7 : 64 * l + s < 704 := by omega
    obtain ⟨b0, hb0⟩ := List.exists_mem_of_ne_nil _ hf.has
    obtain ⟨u0, hu0, _⟩ := hT.of_slot hk7 hb0
    have hst62 : FK.startOf T.now l s ≤ 4611686018427387904 := Nat.le_trans (hf.start hT hu0) (hT.due u0 hu0).2
    have hs62 : s * 64 ^ l ≤ 4611686018427387904 := Nat.le_trans (Nat.le_add_left _ _) hst62
    have hq := Nat.div_mul_le_self T.now (64 ^ (l + 1))
    have hlen0 : 0 < (T.bs (64 * l + s)).length := List.length_pos_iff.2 hf.has
    have hlB : l < B := by
      rcases hB with hB | ⟨u, hu, hB⟩
      · replace hB : T.tms = [] := hB
        rw [hB] at hu0; cases hu0
      · have := hf.ahead u hu
        replace hB : u.lvl < B := hB
        omega
    refine At.skip ?_
    refine At.then ?_
    refine At.seq ?_
    refine At.region ?_
    refine L.mv rfl rfl ?_
    refine L.pure rfl (ev_add (r := ((l + 1 : Nat) : Int)) rfl rfl (by rw [w64 (by omega)]; omega)) ?_
    refine L.pure rfl (ev_mul (r := ((6 * (l + 1) : Nat) : Int)) rfl rfl (by rw [w64 (by omega)]; omega)) ?_
    refine L.as rfl rfl ?_
    refine L.nil ?_
    refine At.then ?_
    refine At.seq ?_
    refine Dr.start rfl ?_
    refine Dr.p 0 rfl rfl (by kernel_rfl) (ev_move rfl) ?_
    refine Dr.p 1 rfl rfl (by kernel_rfl) (ev_nil rfl) ?_
    refine Dr.p 2 rfl rfl (by kernel_rfl) (ev_field (off := 0) rfl rfl) ?_
    refine Dr.ld 3 rfl rfl (by kernel_rfl) (ev_load1 rfl rfl) (cellIs (wcell_at0 _ _ _ _ _)) ?_
    refine Dr.p 4 rfl rfl (by kernel_rfl) (ev_move rfl) ?_
    refine Dr.p 5 rfl rfl (by kernel_rfl) (ev_shr (r := ((T.now / 64 ^ (l + 1) : Nat) : Int)) rfl rfl (by omega) (shr_lv (by omega) hl)) ?_
    refine Dr.p 6 rfl rfl (by kernel_rfl) (ev_move rfl) ?_
    refine Dr.p 7 rfl rfl (by kernel_rfl) (ev_shl (r := ((T.now / 64 ^ (l + 1) * 64 ^ (l + 1) : Nat) : Int)) rfl rfl (by omega) (shl_lv (by omega) hl)) ?_
    refine Dr.p 8 rfl rfl (by kernel_rfl) (ev_move rfl) ?_
    refine Dr.p 9 rfl rfl (by kernel_rfl) (ev_conv (r := (s : Int)) rfl rfl rfl (wu64 (by omega))) ?_
    refine Dr.p 10 rfl rfl (by kernel_rfl) (ev_move rfl) ?_
    refine Dr.p 11 rfl rfl (by kernel_rfl) (ev_mul (r := ((6 * l : Nat) : Int)) rfl rfl (by rw [w64 (by omega)]; omega)) ?_
    refine Dr.p 12 rfl rfl (by kernel_rfl) (ev_shl (r := ((s * 64 ^ l : Nat) : Int)) rfl rfl (by omega) (shl_sl hs62 hl)) ?_
    refine Dr.p 13 rfl rfl (by kernel_rfl) (ev_or (r := ((FK.startOf T.now l s : Nat) : Int)) rfl rfl (by rw [or_nat (Nat.lt_of_le_of_lt hq (by omega)) (Nat.lt_of_le_of_lt hs62 (by omega)), or_start hs])) ?_
    refine Dr.p 14 rfl rfl (by kernel_rfl) (ev_assign rfl) ?_
    refine Dr.done (by kernel_rfl) ?_
    refine At.then ?_
    refine At.seq ?_
    refine At.seq ?_
    refine At.region ?_
    refine L.mv rfl rfl ?_
    refine L.mv rfl rfl ?_
    refine L.pure rfl (ev_gtr rfl rfl rfl) ?_
    refine L.nil ?_
    refine At.then ?_
    refine At.condD rfl (fun c43 => ?_) (fun c43 => ?_)
    ·
      have hst := hT.stay hTup hto62 (.inr ⟨l, s, hf, by omega⟩)
      refine At.exit ?_
      refine At.thenExit (At.inBlockMiss rfl (At.roundExit (At.inBlockHit (At.then ?_))))
      refine At.seq ?_
      refine At.region ?_
      refine L.mv rfl rfl ?_
      refine L.mv rfl rfl ?_
      refine L.nc rfl rfl ?_
      refine L.fa 0 rfl rfl rfl ?_
      refine L.val rfl (ev_load1 rfl rfl) (cellIs (wcell_at0 _ _ _ _ _)) ?_
      refine L.mv rfl rfl ?_
      refine L.pure rfl (ev_max (r := (up : Int)) rfl rfl (by omega)) ?_
      refine L.nc rfl rfl ?_
      refine L.fa 0 rfl rfl rfl ?_
      refine L.st rfl rfl rfl rfl (by rw [wcN_size]; omega) ?_
      rw [wc_set, wcell_now]
      refine L.nil ?_
      refine At.then ?_
      refine At.seq ?_
      refine At.region ?_
      refine L.mv rfl rfl ?_
      refine L.as rfl rfl ?_
      refine L.as rfl rfl ?_
      refine L.as rfl rfl ?_
      refine L.nil ?_
      refine At.then ?_
      refine At.ret ?_
      skip
      have hall : ∀ y ∈ S.tms.map FK.kd, up < y.2 := fun y hy => by
        rw [← hkd] at hy
        obtain ⟨u, hu, rfl⟩ := List.mem_map.1 hy
        exact hst.2 u hu
      exact At.ret3 [_] rfl rfl rfl rfl (.inr ⟨{ T with now := up }, hall, hkd, hst.1, rfl, hTsq, rfl, rfl⟩) (Ent.closeWheel (S := { T with now := up }) (sl := sl) (mp := mp))
    ·
      refine At.skip ?_
      refine At.then ?_
      refine At.seq ?_
      refine At.region ?_
      refine L.mv rfl rfl ?_
      refine L.mv rfl rfl ?_
      refine L.mv rfl rfl ?_
      refine L.nc rfl rfl ?_
      refine L.fa 0 rfl rfl rfl ?_
      refine L.val rfl (ev_load1 rfl rfl) (cellIs (wcell_at0 _ _ _ _ _)) ?_
      refine L.pure rfl (ev_max (r := ((max (FK.startOf T.now l s) T.now : Nat) : Int)) rfl rfl (by omega)) ?_
      refine L.nc rfl rfl ?_
      refine L.fa 0 rfl rfl rfl ?_
      refine L.st rfl rfl rfl rfl (by rw [wcN_size]; omega) ?_
      rw [wc_set, wcell_now]
      refine L.nil ?_
      refine At.then ?_
      refine At.seq ?_
      refine At.seq ?_
      refine At.region ?_
      refine L.mv rfl rfl ?_
      refine L.pure rfl (ev_eql rfl rfl rfl) ?_
      refine L.nil ?_
      refine At.then ?_
      refine At.condD rfl (fun c54 => ?_) (fun c54 => ?_)
      ·
        obtain rfl : l = 0 := by omega
        obtain ⟨a, t, b, hS, h0, hdue, hmin⟩ := hT.head0 hf
        have hT1 := (hT.to0 hf).1
        have htm : t ∈ T.tms := by rw [hS]; simp
        obtain ⟨mx, hmx⟩ : ∃ mx, mx = max (FK.startOf T.now 0 s) T.now := ⟨_, rfl⟩
        rw [← hmx] at hT1 hdue ⊢
        refine At.ent (l' := ptrsAt (sl (64 * 0 + s)) (T.bs (64 * 0 + s)) :: slotsBut sl T.bs (64 * 0 + s) :: blk w 115 (wc (wcell mx T.seq sl T.us mp)) :: tmrs T.tms :: imap .i64 mp (byOf T.tms) :: fr) ((Ent.perm (List.Perm.swap _ _ _)).trans ((slots_open hk7).trans (Ent.refl _))) ?_
        refine At.formRow .head ?_
        intro A c hA hnil hform hc1 hc2 _
        rw [hA]
        obtain ⟨g, rfl⟩ : ∃ g, A = some ⟨g, 0, none⟩ := by
          cases A with
          | none => have := (hnil rfl).1; omega
          | some ad => obtain ⟨g, rfl⟩ := hform ad rfl; exact ⟨g, rfl⟩
        refine At.seq ?_
        refine At.region ?_
        refine L.mv rfl rfl ?_
        refine L.mv rfl rfl ?_
        refine L.nc rfl rfl ?_
        refine L.fa 2 rfl rfl rfl ?_
        refine L.pure rfl (ev_ixAN (i := 0) (z := 64) (o' := 2) rfl rfl rfl rfl (by omega) (by omega)) ?_
        refine L.pure rfl (ev_ixAN (i := s) (z := 1) (o' := 2 + (64 * 0 + s)) rfl rfl rfl rfl hs (by omega)) ?_
        refine L.val rfl (ev_load1 (v := .slice (some ⟨g, 0, none⟩) (T.bs (64 * 0 + s)).length c) rfl rfl) (cellIs (by rw [wcell_atS _ _ _ _ _ hk7, hA])) ?_
        refine L.pure rfl (ev_ixN (i := 0) (z := 1) rfl rfl rfl rfl hlen0) ?_
        refine L.val rfl (ev_load1 (v := ptr t.blk) rfl rfl) (cellIn .head (by simpa using h0)) ?_
        refine L.as rfl rfl ?_
        refine L.nil ?_
        refine At.then ?_
        refine At.seq ?_
        refine At.region ?_
        refine L.mv rfl rfl ?_
        refine L.mv rfl rfl ?_
        refine L.nc rfl rfl ?_
        refine L.fa 0 rfl rfl rfl ?_
        refine L.val rfl (ev_load1 rfl rfl) (tmCell (.tail (.tail (.tail (.head)))) htm rfl) ?_
        refine L.op rfl (o_call rfl rfl rfl hE (drop_some (S := { T with now := mx }) (t := t) w hT1 hS hTln) ((slots_reclose hk7 hA).trans ((Ent.perm (List.Perm.swap _ _ _)).trans (Ent.closeWheel (S := { T with now := mx }) (sl := sl) (mp := mp)))) ?_)
        rintro v m ⟨rfl, rfl⟩
        refine At.app2 ?_
        refine L.nil ?_
        refine At.then ?_
        refine At.seq ?_
        refine Dr.start rfl ?_
        refine Dr.p 0 rfl rfl (by kernel_rfl) (ev_move rfl) ?_
        refine Dr.p 1 rfl rfl (by kernel_rfl) (ev_nil rfl) ?_
        refine Dr.p 2 rfl rfl (by kernel_rfl) (ev_field (off := 0) rfl rfl) ?_
        refine Dr.ld 3 rfl rfl (by kernel_rfl) (ev_load1 rfl rfl) (cellIs rfl) ?_
        refine Dr.p 4 rfl rfl (by kernel_rfl) (ev_move rfl) ?_
        refine Dr.p 5 rfl rfl (by kernel_rfl) (ev_nil rfl) ?_
        refine Dr.p 6 rfl rfl (by kernel_rfl) (ev_field (off := 1) rfl rfl) ?_
        refine Dr.ld 7 rfl rfl (by kernel_rfl) (ev_load1 rfl rfl) (cellIs rfl) ?_
        refine Dr.p 8 rfl rfl (by kernel_rfl) (ev_assign rfl) ?_
        refine Dr.p 9 rfl rfl (by kernel_rfl) (ev_assign rfl) ?_
        refine Dr.p 10 rfl rfl (by kernel_rfl) (ev_assign rfl) ?_
        refine Dr.done (by kernel_rfl) ?_
        refine At.then ?_
        refine At.ret ?_
        refine At.thenRet (At.inBlockRet (At.roundRet (At.inBlockRet (At.thenRet ?_))))
        exact At.ret3 [_] rfl rfl rfl rfl (.inl ⟨({ T with now := mx } : FK.WS).drop a t b, FK.kd t, hkd ▸ hmin, (by show t.due ≤ up; omega), hT1.drop hS, hdue.symm, hTsq, rfl, rfl⟩) (Ent.cons Ent.drop)
      ·
        have hl1 : 1 ≤ l := by omega
        obtain ⟨hmx, hT2⟩ := hT.toL hl1 hf
        have hC := FK.Casc.begin hT hl1 hf
        have hsl : (T.bs (64 * l + s)).length ≤ 100000 := slot_len hT (by omega) hk7
        rw [hmx]
        refine At.ent (l' := ptrsAt (sl (64 * l + s)) (T.bs (64 * l + s)) :: slotsBut sl T.bs (64 * l + s) :: blk w 115 (wc (wcell (FK.startOf T.now l s) T.seq sl T.us mp)) :: tmrs T.tms :: imap .i64 mp (byOf T.tms) :: fr) ((Ent.perm (List.Perm.swap _ _ _)).trans ((slots_open hk7).trans (Ent.refl _))) ?_
        refine At.formRow .head ?_
        intro A c hA hnil hform hc1 hc2 _
        rw [hA]
        obtain ⟨g, rfl⟩ : ∃ g, A = some ⟨g, 0, none⟩ := by
          cases A with
          | none => have := (hnil rfl).1; omega
          | some ad => obtain ⟨g, rfl⟩ := hform ad rfl; exact ⟨g, rfl⟩
        refine At.skip ?_
        refine At.then ?_
        refine At.seq ?_
        refine At.region ?_
        refine L.mv rfl rfl ?_
        refine L.mv rfl rfl ?_
        refine L.mv rfl rfl ?_
        refine L.nc rfl rfl ?_
        refine L.fa 2 rfl rfl rfl ?_
        refine L.pure rfl (ev_ixAN (i := l) (z := 64) (o' := 2 + 64 * l) rfl rfl rfl rfl hl (by omega)) ?_
        refine L.pure rfl (ev_ixAN (i := s) (z := 1) (o' := 2 + (64 * l + s)) rfl rfl rfl rfl hs (by omega)) ?_
        refine L.val rfl (ev_load1 (v := .slice (some ⟨g, 0, none⟩) (T.bs (64 * l + s)).length c) rfl rfl) (cellIs (by rw [wcell_atS _ _ _ _ _ hk7, hA])) ?_
        refine L.as rfl rfl ?_
        refine L.nil ?_
        refine At.then ?_
        refine At.seq ?_
        refine At.region ?_
        refine L.mv rfl rfl ?_
        refine L.mv rfl rfl ?_
        refine L.mv rfl rfl ?_
        refine L.nc rfl rfl ?_
        refine L.fa 2 rfl rfl rfl ?_
        refine L.pure rfl (ev_ixAN (i := l) (z := 64) (o' := 2 + 64 * l) rfl rfl rfl rfl hl (by omega)) ?_
        refine L.pure rfl (ev_ixAN (i := s) (z := 1) (o' := 2 + (64 * l + s)) rfl rfl rfl rfl hs (by omega)) ?_
        refine L.st rfl rfl rfl rfl (by rw [wcN_size]; omega) ?_
        rw [wc_set, wcell_slot _ _ _ _ _ hk7]
        refine L.nil ?_
        refine At.then ?_
        refine At.seq ?_
        refine Dr.start rfl ?_
        refine Dr.p 0 rfl rfl (by kernel_rfl) (ev_move rfl) ?_
        refine Dr.p 1 rfl rfl (by kernel_rfl) (ev_move rfl) ?_
        refine Dr.p 2 rfl rfl (by kernel_rfl) (ev_nil rfl) ?_
        refine Dr.p 3 rfl rfl (by kernel_rfl) (ev_field (off := 706) rfl rfl) ?_
        refine Dr.p 4 rfl rfl (by kernel_rfl) (ev_ixAN (i := l) (z := 1) (o' := 706 + l) rfl rfl rfl rfl hl (by omega)) ?_
        refine Dr.ld 5 rfl rfl (by kernel_rfl) (ev_load1 rfl rfl) (cellIs (wcell_atU _ _ _ _ _ hl)) ?_
        refine Dr.p 6 rfl rfl (by kernel_rfl) (ev_move rfl) ?_
        refine Dr.p 7 rfl rfl (by kernel_rfl) (ev_shl (r := ((2 ^ s : Nat) : Int)) rfl rfl (by omega) (shl_one hs)) ?_
        refine Dr.p 8 rfl rfl (by kernel_rfl) (ev_andNot (r := ((FK.clr (T.us l) s : Nat) : Int)) rfl rfl (clr_nat (hT.uslt l hl) hs)) ?_
        refine Dr.p 9 rfl rfl (by kernel_rfl) (ev_nil rfl) ?_
        refine Dr.p 10 rfl rfl (by kernel_rfl) (ev_field (off := 706) rfl rfl) ?_
        refine Dr.p 11 rfl rfl (by kernel_rfl) (ev_ixAN (i := l) (z := 1) (o' := 706 + l) rfl rfl rfl rfl hl (by omega)) ?_
        refine Dr.run 12 rfl rfl (by kernel_rfl) (o_store1 rfl rfl rfl rfl rfl (by rw [wcN_size]; omega) ?_)
        rw [wc_set, wcell_used _ _ _ _ _ hl]
        refine Dr.kept [false] (by kernel_rfl) Kept.nil ?_
        refine Dr.done (by kernel_rfl) ?_
        refine At.then ?_
        refine At.seq ?_
        refine At.ent (l' := ptrsAt (.slice (some ⟨g, 0, none⟩) (T.bs (64 * l + s)).length c) (T.bs (64 * l + s)) :: wheelAt w (({ T with now := FK.startOf T.now l s } : FK.WS).clear l s) :: fr) ((Ent.sel (.tail (.head))).trans (Ent.cons ((Ent.sel (.tail (.head))).trans (Ent.row0.trans ((slots_close hk7).trans ((Ent.perm (List.Perm.swap _ _ _)).trans (Ent.closeWheel (S := ({ T with now := FK.startOf T.now l s } : FK.WS).clear l s) (sl := upd sl (64 * l + s) _) (mp := mp)))))))) ?_
        refine At.region ?_
        refine L.mv rfl rfl ?_
        refine L.pure rfl (ev_lenS rfl rfl) ?_
        refine L.mv rfl rfl ?_
        refine L.nil ?_
        refine At.then ?_
        refine At.block ?_
        refine At.loop (X := FK.WS × Nat) (fun p => [(107, .int .i64 p.2), (106, .int .i64 (T.bs (64 * l + s)).length), (105, .slice (some ⟨g, 0, none⟩) (T.bs (64 * l + s)).length c), (0, ptr w), (1, .int .u64 up), (4, .int .i64 0)]) (fun p => ptrsAt (.slice (some ⟨g, 0, none⟩) (T.bs (64 * l + s)).length c) (T.bs (64 * l + s)) :: wheelAt w p.1 :: fr) (fun p => p.2 ≤ (T.bs (64 * l + s)).length ∧ FK.Casc p.1 l ((T.bs (64 * l + s)).drop p.2) ∧ p.1.now = FK.startOf T.now l s ∧ p.1.seq = S.seq ∧ p.1.tms.map FK.kd = S.tms.map FK.kd) (fun p => (T.bs (64 * l + s)).length - p.2) (({ T with now := FK.startOf T.now l s } : FK.WS).clear l s, 0) ⟨Nat.zero_le _, hC, rfl, hTsq, hkd⟩ ⟨rfl, rfl, rfl, rfl, rfl, rfl, trivial⟩ (Ent.refl _) ?_
        rintro ⟨U, i⟩ ⟨hi, hCU, hUn, hUsq, hUkd⟩
        replace hi : i ≤ (T.bs (64 * l + s)).length := hi
        replace hCU : FK.Casc U l ((T.bs (64 * l + s)).drop i) := hCU
        replace hUn : U.now = FK.startOf T.now l s := hUn
        replace hUsq : U.seq = S.seq := hUsq
        replace hUkd : U.tms.map FK.kd = S.tms.map FK.kd := hUkd
        refine At.seq ?_
        refine At.region ?_
        refine L.pure rfl (ev_lss rfl rfl rfl) ?_
        refine L.nil ?_
        refine At.then ?_
        refine At.seq ?_
        refine At.condD rfl (fun c108 => ?_) (fun c108 => ?_)
        ·
          have hlt : i < (T.bs (64 * l + s)).length := by omega
          obtain ⟨x, hx⟩ : ∃ x, (T.bs (64 * l + s))[i]? = some x := ⟨(T.bs (64 * l + s))[i], by simp [hlt]⟩
          have hdr : (T.bs (64 * l + s)).drop i = x :: (T.bs (64 * l + s)).drop (i + 1) := by
            rw [List.drop_eq_getElem_cons hlt]
            rw [List.getElem?_eq_getElem hlt] at hx
            injection hx with hx
            rw [hx]
          rw [hdr] at hCU
          obtain ⟨a, t, b, hUS, rfl, hlow, hC'⟩ := hCU.step
          have hUln : U.tms.length ≤ 99999 := by rw [kd_len hUkd]; exact hln
          refine At.skip ?_
          refine At.then ?_
          refine At.seq ?_
          refine At.block ?_
          refine At.seq ?_
          refine At.region ?_
          refine L.pure rfl (ev_ixN (z := 1) rfl rfl rfl rfl hlt) ?_
          refine L.val rfl (ev_load1 (v := ptr t.blk) rfl rfl) (cellIn .head (by simp [hx])) ?_
          refine L.as rfl rfl ?_
          refine L.nil ?_
          refine At.then ?_
          refine At.region ?_
          refine L.mv rfl rfl ?_
          refine L.mv rfl rfl ?_
          refine L.op rfl (o_call rfl rfl rfl hE (put_does w hCU.inv hUS (by omega) hUln hlow) (Ent.sel (.tail (.head))) ?_)
          rintro v m ⟨rfl, rfl⟩
          refine At.app1 ?_
          refine L.nil ?_
          refine At.inBlock (At.then ?_)
          refine At.region ?_
          refine L.pure rfl (ev_add (r := ((i + 1 : Nat) : Int)) rfl rfl (by rw [w64 (by omega)]; omega)) ?_
          refine L.mv rfl rfl ?_
          refine L.nil ?_
          exact At.round (U.put a t b, i + 1) ⟨by show i + 1 ≤ _; omega, hC', hUn, hUsq, (kd_put hUS).trans hUkd⟩ (by show _ - (i + 1) < _ - i; omega) ⟨rfl, rfl, rfl, rfl, rfl, rfl, trivial⟩ (Ent.perm (List.Perm.swap _ _ _))
        ·
          obtain rfl : i = (T.bs (64 * l + s)).length := by omega
          rw [List.drop_length] at hCU
          refine At.exit ?_
          refine At.thenExit (At.roundExit (At.inBlockHit (At.inBlock ?_)))
          exact At.round (U, l) ⟨hCU.inv, (by show U.now ≤ up; omega), hUsq, hUkd, .inr (by obtain ⟨t, ht, h1⟩ := hCU.some; exact ⟨t, ht, h1.resolve_left (by simp)⟩)⟩ hlB ⟨rfl, rfl, rfl, trivial⟩ Ent.drop
end Go.Proofs.YtagkobkmaigfcaaDoor

/- What is due first; a new timer; a new wheel. -/
namespace Go.Proofs.YtagkobkmaigfcaaDoor
open Go Go.RowKit Go.SL
open FK (upd upd_at upd_off)
variable {G : Env → Prop}

def cmpI (x y : Nat) : Int := if x < y then -1 else if y < x then 1 else 0
theorem cmpI_neg {x y : Nat} : cmpI x y < 0 ↔ x < y := by unfold cmpI; split <;> (try split) <;> omega

set_option maxRecDepth 10000 in
theorem cmp_does (x y : Nat) : Does Tryd.prog G 68 [.int .u64 x, .int .u64 y].toArray [] fun v m => v = .int .i64 (cmpI x y) ∧ m = [] := by
  refine Does.body Tryd.func68 rfl rfl fun E fr hE => ?_
  refine At.app0 ?_
  refine At.seq ?_
  refine At.region ?_
  refine L.as rfl rfl ?_
  refine L.nil ?_
  refine At.then ?_
  refine At.seq ?_
  refine At.block ?_
  refine At.seq ?_
  refine At.region ?_
  refine L.mv rfl rfl ?_
  refine L.mv rfl rfl ?_
  refine L.pure rfl (ev_lss rfl rfl rfl) ?_
  refine L.as rfl rfl ?_
  refine L.nil ?_
  refine At.then ?_
  refine At.condD rfl (fun c5 => ?_) (fun c5 => ?_)
  ·
    refine At.seq ?_
    refine At.region ?_
    refine L.as rfl rfl ?_
    refine L.nil ?_
    refine At.then ?_
    refine At.ret ?_
    refine At.inBlockRet (At.thenRet ?_)
    exact At.ret1 [] rfl rfl ⟨by rw [cmpI, if_pos (by omega)], rfl⟩ (Ent.refl _)
  ·
    refine At.seq ?_
    refine At.region ?_
    refine L.mv rfl rfl ?_
    refine L.mv rfl rfl ?_
    refine L.pure rfl (ev_gtr rfl rfl rfl) ?_
    refine L.as rfl rfl ?_
    refine L.nil ?_
    refine At.then ?_
    refine At.condD rfl (fun c9 => ?_) (fun c9 => ?_)
    ·
      refine At.seq ?_
      refine At.region ?_
      refine L.as rfl rfl ?_
      refine L.nil ?_
      refine At.then ?_
      refine At.ret ?_
      refine At.inBlockRet (At.thenRet ?_)
      exact At.ret1 [] rfl rfl ⟨by rw [cmpI, if_neg (by omega), if_pos (by omega)], rfl⟩ (Ent.refl _)
    ·
      refine At.skip ?_
      refine At.inBlock (At.then ?_)
      refine At.seq ?_
      refine At.region ?_
      refine L.as rfl rfl ?_
      refine L.nil ?_
      refine At.then ?_
      refine At.ret ?_
      exact At.ret1 [] rfl rfl ⟨by rw [cmpI, if_neg (by omega), if_neg (by omega)], rfl⟩ (Ent.refl _)

set_option maxRecDepth 10000 in
theorem next1 {l : List FK.Tmr} (a b : FK.Tmr) (ha : a ∈ l) (hb : b ∈ l) : Does Tryd.prog G 67 [ptr a.blk, ptr b.blk].toArray [tmrs l] fun v m => (∃ d : Int, v = .int .i64 d ∧ (d < 0 ↔ a.due < b.due ∨ a.due = b.due ∧ a.seq < b.seq)) ∧ m = [tmrs l] := by
  refine Does.body Tryd.func67 rfl rfl fun E fr hE => ?_
  refine At.app1 ?_
  refine At.seq ?_
  refine At.region ?_
  refine L.as rfl rfl ?_
  refine L.nil ?_
  refine At.then ?_
  refine At.seq ?_
  refine At.seq ?_
  refine Dr.start rfl ?_
  refine Dr.p 0 rfl rfl (by kernel_rfl) (ev_move rfl) ?_
  refine Dr.p 1 rfl rfl (by kernel_rfl) (ev_nil rfl) ?_
  refine Dr.p 2 rfl rfl (by kernel_rfl) (ev_field (off := 1) rfl rfl) ?_
  refine Dr.ld 3 rfl rfl (by kernel_rfl) (ev_load1 rfl rfl) (tmCell .head ha rfl) ?_
  refine Dr.p 4 rfl rfl (by kernel_rfl) (ev_move rfl) ?_
  refine Dr.p 5 rfl rfl (by kernel_rfl) (ev_nil rfl) ?_
  refine Dr.p 6 rfl rfl (by kernel_rfl) (ev_field (off := 1) rfl rfl) ?_
  refine Dr.ld 7 rfl rfl (by kernel_rfl) (ev_load1 rfl rfl) (tmCell .head hb rfl) ?_
  refine Dr.p 8 rfl rfl (by kernel_rfl) (ev_neq rfl rfl rfl) ?_
  refine Dr.done (by kernel_rfl) ?_
  refine At.then ?_
  refine At.condD rfl (fun c13 => ?_) (fun c13 => ?_)
  ·
    refine At.seq ?_
    refine Dr.start rfl ?_
    refine Dr.p 0 rfl rfl (by kernel_rfl) (ev_move rfl) ?_
    refine Dr.p 1 rfl rfl (by kernel_rfl) (ev_nil rfl) ?_
    refine Dr.p 2 rfl rfl (by kernel_rfl) (ev_field (off := 1) rfl rfl) ?_
    refine Dr.ld 3 rfl rfl (by kernel_rfl) (ev_load1 rfl rfl) (tmCell .head ha rfl) ?_
    refine Dr.p 4 rfl rfl (by kernel_rfl) (ev_move rfl) ?_
    refine Dr.p 5 rfl rfl (by kernel_rfl) (ev_nil rfl) ?_
    refine Dr.p 6 rfl rfl (by kernel_rfl) (ev_field (off := 1) rfl rfl) ?_
    refine Dr.ld 7 rfl rfl (by kernel_rfl) (ev_load1 rfl rfl) (tmCell .head hb rfl) ?_
    refine Dr.run 8 rfl rfl (by kernel_rfl) (o_call rfl rfl rfl hE (cmp_does a.due b.due) (Ent.refl _) ?_)
    rintro v m ⟨rfl, rfl⟩
    refine At.app0 ?_
    refine Dr.kept [false, false] (by kernel_rfl) Kept.nil ?_
    refine Dr.p 9 rfl rfl (by kernel_rfl) (ev_assign rfl) ?_
    refine Dr.done (by kernel_rfl) ?_
    refine At.then ?_
    refine At.ret ?_
    refine At.thenRet ?_
    exact At.ret1 [_] rfl rfl ⟨⟨_, rfl, by rw [cmpI_neg]; omega⟩, rfl⟩ (Ent.refl _)
  ·
    refine At.skip ?_
    refine At.then ?_
    refine At.seq ?_
    refine Dr.start rfl ?_
    refine Dr.p 0 rfl rfl (by kernel_rfl) (ev_move rfl) ?_
    refine Dr.p 1 rfl rfl (by kernel_rfl) (ev_nil rfl) ?_
    refine Dr.p 2 rfl rfl (by kernel_rfl) (ev_field (off := 2) rfl rfl) ?_
    refine Dr.ld 3 rfl rfl (by kernel_rfl) (ev_load1 rfl rfl) (tmCell .head ha rfl) ?_
    refine Dr.p 4 rfl rfl (by kernel_rfl) (ev_move rfl) ?_
    refine Dr.p 5 rfl rfl (by kernel_rfl) (ev_nil rfl) ?_
    refine Dr.p 6 rfl rfl (by kernel_rfl) (ev_field (off := 2) rfl rfl) ?_
    refine Dr.ld 7 rfl rfl (by kernel_rfl) (ev_load1 rfl rfl) (tmCell .head hb rfl) ?_
    refine Dr.run 8 rfl rfl (by kernel_rfl) (o_call rfl rfl rfl hE (cmp_does a.seq b.seq) (Ent.refl _) ?_)
    rintro v m ⟨rfl, rfl⟩
    refine At.app0 ?_
    refine Dr.kept [false, false] (by kernel_rfl) Kept.nil ?_
    refine Dr.p 9 rfl rfl (by kernel_rfl) (ev_assign rfl) ?_
    refine Dr.done (by kernel_rfl) ?_
    refine At.then ?_
    refine At.ret ?_
    exact At.ret1 [_] rfl rfl ⟨⟨_, rfl, by rw [cmpI_neg]; omega⟩, rfl⟩ (Ent.refl _)

set_option maxRecDepth 10000 in
theorem min_does {l F : List FK.Tmr} {bs : List Nat} {g c : Nat} (hbs : bs = F.map FK.Tmr.blk) (hF : ∀ t ∈ F, t ∈ l) (hs : F.Pairwise fun a b => a.seq < b.seq) (hne : F ≠ []) (hl : bs.length ≤ 100000) :
    Does Tryd.prog G 66 [.slice (some ⟨g, 0, none⟩) bs.length c, .func (.func 67) #[] #[]].toArray [ptrsAt (.slice (some ⟨g, 0, none⟩) bs.length c) bs, tmrs l]
      fun v m => (∃ F1 t F2, F = F1 ++ t :: F2 ∧ (∀ u ∈ F1, t.due < u.due) ∧ (∀ u ∈ F2, t.due ≤ u.due) ∧ v = ptr t.blk) ∧ m = [ptrsAt (.slice (some ⟨g, 0, none⟩) bs.length c) bs, tmrs l] := by
  have hlen : bs.length = F.length := by rw [hbs, List.length_map]
  have hpos : 0 < F.length := List.length_pos_iff.2 hne
  obtain ⟨t0, ht0⟩ : ∃ t, F[0]? = some t := ⟨F[0], by simp [hpos]⟩
  have hb : ∀ (i : Nat) (t : FK.Tmr), F[i]? = some t → bs[i]? = some t.blk := fun i t h => by rw [hbs, List.getElem?_map, h]; rfl
  refine Does.body Tryd.func66 rfl rfl fun E fr hE => ?_
  refine At.app2 ?_
  refine At.seq ?_
  refine At.region ?_
  refine L.as rfl rfl ?_
  refine L.nil ?_
  refine At.then ?_
  refine At.seq ?_
  refine At.seq ?_
  refine At.region ?_
  refine L.mv rfl rfl ?_
  refine L.pure rfl (ev_lenS rfl rfl) ?_
  refine L.pure rfl (ev_lss (r := false) rfl rfl (by rw [decide_eq_false_iff_not]; omega)) ?_
  refine L.nil ?_
  refine At.then ?_
  refine At.condF rfl ?_
  refine At.skip ?_
  refine At.then ?_
  refine At.seq ?_
  refine At.region ?_
  refine L.mv rfl rfl ?_
  refine L.pure rfl (ev_ixN (i := 0) (z := 1) rfl rfl rfl rfl (by omega)) ?_
  refine L.val rfl (ev_load1 (v := ptr t0.blk) rfl rfl) (cellIn .head (by simp [hb 0 t0 ht0])) ?_
  refine L.as rfl rfl ?_
  refine L.nil ?_
  refine At.then ?_
  refine At.seq ?_
  refine At.seq ?_
  refine At.region ?_
  refine L.as rfl rfl ?_
  refine L.nil ?_
  refine At.then ?_
  refine At.block ?_
  refine At.loop (X := Nat × Nat × FK.Tmr) (fun p => [(6, .int .i64 (p.1 : Nat)), (5, ptr p.2.2.blk), (0, .slice (some ⟨g, 0, none⟩) bs.length c), (1, .func (.func 67) #[] #[])]) (fun _ => ptrsAt (.slice (some ⟨g, 0, none⟩) bs.length c) bs :: tmrs l :: fr) (fun p => p.1 ≤ F.length ∧ FK.Best F p.1 p.2.1 p.2.2) (fun p => F.length - p.1) (1, 0, t0) ⟨hpos, FK.Best.first ht0⟩ ⟨rfl, rfl, rfl, rfl, trivial⟩ (Ent.refl _) ?_
  rintro ⟨i, j, t⟩ ⟨hi, hB⟩
  replace hi : i ≤ F.length := hi
  replace hB : FK.Best F i j t := hB
  have htF : t ∈ F := List.mem_of_getElem? hB.1
  refine At.seq ?_
  refine At.seq ?_
  refine At.region ?_
  refine L.mv rfl rfl ?_
  refine L.mv rfl rfl ?_
  refine L.pure rfl (ev_lenS rfl rfl) ?_
  refine L.pure rfl (ev_lss rfl rfl rfl) ?_
  refine L.nil ?_
  refine At.then ?_
  refine At.condD rfl (fun c17 => ?_) (fun c17 => ?_)
  ·
    have hlt : i < F.length := by omega
    obtain ⟨u, hu⟩ : ∃ u, F[i]? = some u := ⟨F[i], by simp [hlt]⟩
    have huF : u ∈ F := List.mem_of_getElem? hu
    refine At.skip ?_
    refine At.then ?_
    refine At.seq (At.cut (X := Nat × FK.Tmr) (fun q => [(6, .int .i64 i), (5, ptr q.2.blk), (0, .slice (some ⟨g, 0, none⟩) bs.length c), (1, .func (.func 67) #[] #[])]) (fun _ => ptrsAt (.slice (some ⟨g, 0, none⟩) bs.length c) bs :: tmrs l :: fr) (fun q => FK.Best F (i + 1) q.1 q.2) ?_ ?_)
    ·
      refine At.block ?_
      refine At.seq ?_
      refine At.region ?_
      refine L.mv rfl rfl ?_
      refine L.mv rfl rfl ?_
      refine L.mv rfl rfl ?_
      refine L.pure rfl (ev_ixN (i := i) (z := 1) rfl rfl rfl rfl (by omega)) ?_
      refine L.val rfl (ev_load1 (v := ptr u.blk) rfl rfl) (cellIn .head (by simp [hb i u hu])) ?_
      refine L.mv rfl rfl ?_
      refine L.op rfl (o_callV rfl rfl rfl rfl hE (next1 u t (hF u huF) (hF t htF)) (Ent.sel (.tail (.head))) ?_)
      rintro v m ⟨⟨d, rfl, hd⟩, rfl⟩
      refine At.app1 ?_
      refine L.pure rfl (ev_lss rfl rfl rfl) ?_
      refine L.nil ?_
      refine At.then ?_
      refine At.condD rfl (fun c27 => ?_) (fun c27 => ?_)
      ·
        refine At.region ?_
        refine L.mv rfl rfl ?_
        refine L.mv rfl rfl ?_
        refine L.pure rfl (ev_ixN (i := i) (z := 1) rfl rfl rfl rfl (by omega)) ?_
        refine L.val rfl (ev_load1 (v := ptr u.blk) rfl rfl) (cellIn (.tail (.head)) (by simp [hb i u hu])) ?_
        refine L.as rfl rfl ?_
        refine L.nil ?_
        refine At.inBlock ?_
        exact At.meet (i, u) (hB.lt hs hu (hd.1 c27)) ⟨rfl, rfl, rfl, rfl, trivial⟩ (Ent.perm (List.Perm.swap _ _ _))
      ·
        refine At.skip ?_
        refine At.inBlock ?_
        exact At.meet (j, t) (hB.ge hu (fun h => c27 (hd.2 h))) ⟨rfl, rfl, rfl, rfl, trivial⟩ (Ent.perm (List.Perm.swap _ _ _))
    rintro ⟨j', t'⟩ hB'
    replace hB' : FK.Best F (i + 1) j' t' := hB'
    refine At.region ?_
    refine L.mv rfl rfl ?_
    refine L.pure rfl (ev_add (r := ((i + 1 : Nat) : Int)) rfl rfl (by rw [w64 (by omega)]; omega)) ?_
    refine L.as rfl rfl ?_
    refine L.nil ?_
    exact At.round (i + 1, j', t') ⟨hlt, hB'⟩ (by show _ - (i + 1) < _ - i; omega) ⟨rfl, rfl, rfl, rfl, trivial⟩ (Ent.refl _)
  ·
    obtain rfl : i = F.length := by omega
    obtain ⟨F1, F2, e, h1, h2⟩ := hB.fin
    refine At.exit ?_
    refine At.thenExit (At.roundExit (At.inBlockHit (At.then ?_)))
    refine At.seq ?_
    refine At.region ?_
    refine L.mv rfl rfl ?_
    refine L.as rfl rfl ?_
    refine L.nil ?_
    refine At.then ?_
    refine At.ret ?_
    exact At.ret1 [_, _] rfl rfl ⟨⟨F1, t, F2, e, h1, h2, rfl⟩, rfl⟩ (Ent.refl _)

/-- what a wheel says of its first timer -/
def NextR (S : FK.WS) (v : Value) : Prop :=
  (S.tms = [] ∧ v = .tuple #[.int .i64 0, .int .u64 0, .bool false]) ∨ ∃ (x : Int × Nat) (L' : List (Int × Nat)), FK.IsMin (S.tms.map FK.kd) x L' ∧ v = .tuple #[.int .i64 x.1, .int .u64 x.2, .bool true]

set_option maxRecDepth 10000 in
set_option maxHeartbeats 1000000 in
theorem next_does {S : FK.WS} (w : Nat) (h : FK.Inv S []) (hln : S.tms.length ≤ 99999) :
    Does Tryd.prog Good 48 [ptr w].toArray [wheelAt w S] fun v m => NextR S v ∧ m = [wheelAt w S] := by
  refine Does.body Tryd.func48 rfl rfl fun E fr hE => ?_
  refine At.app1 ?_
  refine At.openWheel .head fun sl mp => ?_
  refine At.seq ?_
  refine At.region ?_
  refine L.as rfl rfl ?_
  refine L.as rfl rfl ?_
  refine L.as rfl rfl ?_
  refine L.nil ?_
  refine At.then ?_
  refine At.seq ?_
  refine At.region ?_
  refine L.mv rfl rfl ?_
  refine L.op rfl (o_call rfl rfl rfl hE (first_does w S.now S.seq sl S.us mp h.uslt) (Ent.refl _) ?_)
  rintro v m ⟨⟨l, s, any, rfl, hany, hnone⟩, rfl⟩
  refine At.app1 ?_
  refine L.mv rfl rfl ?_
  refine L.ex rfl rfl rfl ?_
  refine L.ex rfl rfl rfl ?_
  refine L.ex rfl rfl rfl ?_
  refine L.as rfl rfl ?_
  refine L.as rfl rfl ?_
  refine L.as rfl rfl ?_
  refine L.nil ?_
  refine At.then ?_
  refine At.seq ?_
  refine At.seq ?_
  refine At.region ?_
  refine L.mv rfl rfl ?_
  refine L.pure rfl (ev_not rfl rfl) ?_
  refine L.nil ?_
  refine At.then ?_
  refine At.cond rfl (fun c15 => ?_) (fun c15 => ?_)
  ·
    have ha : any = false := by simpa using c15
    refine At.seq ?_
    refine At.region ?_
    refine L.mv rfl rfl ?_
    refine L.as rfl rfl ?_
    refine L.as rfl rfl ?_
    refine L.as rfl rfl ?_
    refine L.nil ?_
    refine At.then ?_
    refine At.ret ?_
    refine At.thenRet ?_
    exact At.ret3 [_] rfl rfl rfl rfl ⟨.inl ⟨h.none (hnone ha), rfl⟩, rfl⟩ (Ent.closeWheel (S := S) (sl := sl) (mp := mp))
  ·
    have ha : any = true := by simpa using c15
    obtain ⟨hl, hs, hb1, hb2, hb3⟩ := hany ha
    have hf : FK.Fst S l s := h.fst hl hs hb1 hb2 hb3
    have hk7 : 64 * l + s < 704 := by omega
    have hbs := h.slot _ hk7
    have hlen0 : 0 < (S.bs (64 * l + s)).length := List.length_pos_iff.2 hf.has
    have hsl : (S.bs (64 * l + s)).length ≤ 100000 := slot_len h (by omega) hk7
    refine At.ent (l' := ptrsAt (sl (64 * l + s)) (S.bs (64 * l + s)) :: slotsBut sl S.bs (64 * l + s) :: whl w S sl mp :: tmrs S.tms :: imap .i64 mp (byOf S.tms) :: fr) ((Ent.perm (List.Perm.swap _ _ _)).trans ((slots_open hk7).trans (Ent.refl _))) ?_
    refine At.formRow .head ?_
    intro A c hA hnil hform hc1 hc2 _
    rw [hA]
    obtain ⟨g, rfl⟩ : ∃ g, A = some ⟨g, 0, none⟩ := by
      cases A with
      | none => have := (hnil rfl).1; omega
      | some ad => obtain ⟨g, rfl⟩ := hform ad rfl; exact ⟨g, rfl⟩
    refine At.skip ?_
    refine At.then ?_
    refine At.seq ?_
    refine At.region ?_
    refine L.mv rfl rfl ?_
    refine L.mv rfl rfl ?_
    refine L.mv rfl rfl ?_
    refine L.nc rfl rfl ?_
    refine L.fa 2 rfl rfl rfl ?_
    refine L.pure rfl (ev_ixAN (i := l) (z := 64) (o' := 2 + 64 * l) rfl rfl rfl rfl hl (by omega)) ?_
    refine L.pure rfl (ev_ixAN (i := s) (z := 1) (o' := 2 + (64 * l + s)) rfl rfl rfl rfl hs (by omega)) ?_
    refine L.val rfl (ev_load1 (v := .slice (some ⟨g, 0, none⟩) (S.bs (64 * l + s)).length c) rfl rfl) (cellIs (by rw [wcell_atS _ _ _ _ _ hk7, hA])) ?_
    refine L.op rfl (o_call rfl rfl rfl hE (min_does hbs (fun t ht => (List.mem_filter.1 ht).1) (h.seqs.sublist List.filter_sublist) (fun e => by rw [e] at hbs; exact hf.has hbs) hsl) (Ent.sel2 .head (.tail (.tail (.head)))) ?_)
    rintro v m ⟨⟨F1, t, F2, hF, hF1, hF2, rfl⟩, rfl⟩
    refine At.app2 ?_
    have htm : t ∈ S.tms := (List.mem_filter.1 (hF ▸ List.mem_append_right F1 (List.mem_cons_self ..) : t ∈ S.tms.filter (FK.inS [] (64 * l + s)))).1
    obtain ⟨L', hmin⟩ := hf.minAt h hF hF1 hF2
    refine L.as rfl rfl ?_
    refine L.nil ?_
    refine At.then ?_
    refine At.seq ?_
    refine Dr.start rfl ?_
    refine Dr.p 0 rfl rfl (by kernel_rfl) (ev_move rfl) ?_
    refine Dr.p 1 rfl rfl (by kernel_rfl) (ev_nil rfl) ?_
    refine Dr.p 2 rfl rfl (by kernel_rfl) (ev_field (off := 0) rfl rfl) ?_
    refine Dr.ld 3 rfl rfl (by kernel_rfl) (ev_load1 rfl rfl) (tmCell (.tail (.head)) htm rfl) ?_
    refine Dr.p 4 rfl rfl (by kernel_rfl) (ev_move rfl) ?_
    refine Dr.p 5 rfl rfl (by kernel_rfl) (ev_nil rfl) ?_
    refine Dr.p 6 rfl rfl (by kernel_rfl) (ev_field (off := 1) rfl rfl) ?_
    refine Dr.ld 7 rfl rfl (by kernel_rfl) (ev_load1 rfl rfl) (tmCell (.tail (.head)) htm rfl) ?_
    refine Dr.p 8 rfl rfl (by kernel_rfl) (ev_assign rfl) ?_
    refine Dr.p 9 rfl rfl (by kernel_rfl) (ev_assign rfl) ?_
    refine Dr.p 10 rfl rfl (by kernel_rfl) (ev_assign rfl) ?_
    refine Dr.done (by kernel_rfl) ?_
    refine At.then ?_
    refine At.ret ?_
    exact At.ret3 [_] rfl rfl rfl rfl ⟨.inr ⟨FK.kd t, L', hmin, rfl⟩, rfl⟩ ((Ent.sel2 .head (.tail (.head))).trans ((slots_reclose hk7 hA).trans ((Ent.sel3 (.tail (.tail (.head))) .head .head).trans (Ent.closeWheel (S := S) (sl := sl) (mp := mp)))))
end Go.Proofs.YtagkobkmaigfcaaDoor
