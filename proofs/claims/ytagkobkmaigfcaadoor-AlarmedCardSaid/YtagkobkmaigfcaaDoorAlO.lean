/- flowkeeper's Wheel; plain's calls of it. -/
import Derived.Test.YtagkobkmaigfcaaDoorAlN
import Derived.Test.YtagkobkmaigfcaaDoorAlK
namespace Go.Proofs.YtagkobkmaigfcaaDoor
open Go Go.RowKit Go.SL
open FK (upd upd_at upd_off)
variable {G : Env → Prop}

/-- flowkeeper's wheel -/
def fkw (x : Nat) (S : FK.WS) : HP := HP.ex fun w : Nat => HP.all [blk x 84 #[ptr w], wheelAt w S]
theorem At.openFkw {E : Env} {n : Nat} {D : List Deferred} {ts : List (Nat × Value)} {l r : List HP} {K : Act → World → Prop} {x : Nat} {S : FK.WS} (s : Sel (fkw x S) l r)
    (h : ∀ w, At E n D ts (blk x 84 #[ptr w] :: wheelAt w S :: r) K) : At E n D ts l K :=
  At.ex s fun w => At.openAll (h w)
theorem Ent.closeFkw {x w : Nat} {S : FK.WS} {r : List HP} : Ent (blk x 84 #[ptr w] :: wheelAt w S :: r) (fkw x S :: r) :=
  (Ent.all (m := [blk x 84 #[ptr w], wheelAt w S])).trans (Ent.ex (f := fun w : Nat => HP.all [blk x 84 #[ptr w], wheelAt w S]) w)
theorem Ent.closeFkw' {x w : Nat} {S : FK.WS} {r : List HP} : Ent (wheelAt w S :: blk x 84 #[ptr w] :: r) (fkw x S :: r) := (Ent.perm (List.Perm.swap _ _ _)).trans Ent.closeFkw

set_option maxRecDepth 10000 in
theorem newWheel_does (now : Nat) : Does Tryd.prog G 20 [.int .u64 now].toArray [] fun v m => ∃ x, v = ptr x ∧ m = [fkw x (WS0 (min now 4611686018427387904))] := by
  refine Does.body Tryd.func20 rfl rfl fun E fr hE => ?_
  refine At.app0 ?_
  refine At.seq ?_
  refine At.region ?_
  refine L.as rfl rfl ?_
  refine L.nil ?_
  refine At.then ?_
  refine At.seq ?_
  refine At.region ?_
  refine L.mv rfl rfl ?_
  refine L.pure rfl (ev_min (r := ((min now 4611686018427387904 : Nat) : Int)) rfl rfl (by omega)) ?_
  refine L.op rfl (o_call rfl rfl rfl hE (new_does _) (Ent.refl _) ?_)
  rintro v m ⟨w, rfl, rfl⟩
  refine At.app1 ?_
  refine L.pure rfl (ev_build (cs := #[ptr w]) rfl rfl rfl rfl rfl) ?_
  refine L.op rfl (o_box rfl rfl fun x => ?_)
  refine L.as rfl rfl ?_
  refine L.nil ?_
  refine At.then ?_
  refine At.ret ?_
  exact At.ret1 [_] rfl rfl ⟨x, rfl, rfl⟩ Ent.closeFkw

theorem kd_keys (S : FK.WS) : (S.tms.map FK.kd).map (·.1) = S.tms.map FK.Tmr.key := by rw [List.map_map]; rfl
/-- an error by its number, as it is handed out -/
def errV (n : Int) : Value := if n = 0 then .nilIface else .iface 26 (.int .i64 n)

set_option maxRecDepth 10000 in
set_option maxHeartbeats 1000000 in
theorem fset_does {S : FK.WS} (x : Nat) (k : Int) (a : Nat) (h : FK.Inv S []) (ha : a < 18446744073709551616) (hsq : S.seq < 9223372036854775807) (hln : S.tms.length ≤ 200) :
    Does Tryd.prog G 44 [ptr x, .int .i64 k, .int .u64 a].toArray [fkw x S]
      fun v m => v = errV (FK.setR S.now (S.tms.map FK.kd) k a).1 ∧ ∃ S' : FK.WS, FK.Inv S' [] ∧ S'.now = S.now ∧ S'.seq ≤ S.seq + 1 ∧ S'.tms.map FK.kd = (FK.setR S.now (S.tms.map FK.kd) k a).2 ∧ m = [fkw x S'] := by
  have hnow : S.now ≤ 4611686018427387904 := h.nowle
  have hlm : (S.tms.map FK.kd).length = S.tms.length := List.length_map _
  refine Does.body Tryd.func44 rfl rfl fun E fr hE => ?_
  refine At.app1 ?_
  refine At.openFkw .head fun w => ?_
  refine At.seq ?_
  refine At.region ?_
  refine L.as rfl rfl ?_
  refine L.nil ?_
  refine At.then ?_
  refine At.seq ?_
  refine At.block ?_
  refine At.seq ?_
  refine At.region ?_
  refine L.mv rfl rfl ?_
  refine L.nc rfl rfl ?_
  refine L.fa 0 rfl rfl rfl ?_
  refine L.ld rfl rfl rfl rfl ?_
  refine L.mv rfl rfl ?_
  refine L.op rfl (o_call rfl rfl rfl hE (has_does w k h) (Ent.sel (.tail (.head))) ?_)
  rintro v m ⟨rfl, rfl⟩
  refine At.app1 ?_
  refine L.as rfl rfl ?_
  refine L.nil ?_
  refine At.then ?_
  refine At.condD rfl (fun c7 => ?_) (fun c7 => ?_)
  ·
    have hR : FK.setR S.now (S.tms.map FK.kd) k a = (8, S.tms.map FK.kd) := by rw [FK.setR, if_pos c7]
    refine At.seq ?_
    refine At.region ?_
    refine L.pure rfl (ev_iface rfl rfl rfl) ?_
    refine L.as rfl rfl ?_
    refine L.nil ?_
    refine At.then ?_
    refine At.ret ?_
    refine At.inBlockRet (At.thenRet ?_)
    exact At.ret1 [_] rfl rfl ⟨by rw [hR]; rfl, S, h, rfl, by omega, by rw [hR], rfl⟩ Ent.closeFkw'
  ·
    refine At.seq ?_
    refine At.region ?_
    refine L.mv rfl rfl ?_
    refine L.nc rfl rfl ?_
    refine L.fa 0 rfl rfl rfl ?_
    refine L.ld rfl rfl rfl rfl ?_
    refine L.op rfl (o_call rfl rfl rfl hE (len_does w) (Ent.sel .head) ?_)
    rintro v m ⟨rfl, rfl⟩
    refine At.app1 ?_
    refine L.pure rfl (ev_eql rfl rfl rfl) ?_
    refine L.as rfl rfl ?_
    refine L.nil ?_
    refine At.then ?_
    refine At.condD rfl (fun c15 => ?_) (fun c15 => ?_)
    ·
      have hR : FK.setR S.now (S.tms.map FK.kd) k a = (5, S.tms.map FK.kd) := by rw [FK.setR, if_neg c7, if_pos (by omega)]
      refine At.seq ?_
      refine At.region ?_
      refine L.pure rfl (ev_iface rfl rfl rfl) ?_
      refine L.as rfl rfl ?_
      refine L.nil ?_
      refine At.then ?_
      refine At.ret ?_
      refine At.inBlockRet (At.thenRet ?_)
      exact At.ret1 [_] rfl rfl ⟨by rw [hR]; rfl, S, h, rfl, by omega, by rw [hR], rfl⟩ Ent.closeFkw'
    ·
      have hR : FK.setR S.now (S.tms.map FK.kd) k a = (0, S.tms.map FK.kd ++ [(k, FK.atOf S.now a)]) := by rw [FK.setR, if_neg c7, if_neg (by omega)]
      refine At.skip ?_
      refine At.inBlock (At.then ?_)
      refine At.seq ?_
      refine Dr.start rfl ?_
      refine Dr.p 0 rfl rfl (by kernel_rfl) (ev_move rfl) ?_
      refine Dr.p 1 rfl rfl (by kernel_rfl) (ev_nil rfl) ?_
      refine Dr.p 2 rfl rfl (by kernel_rfl) (ev_field (off := 0) rfl rfl) ?_
      refine Dr.ld 3 rfl rfl (by kernel_rfl) (ev_load1 rfl rfl) (cellIs rfl) ?_
      refine Dr.p 4 rfl rfl (by kernel_rfl) (ev_move rfl) ?_
      refine Dr.p 5 rfl rfl (by kernel_rfl) (ev_move rfl) ?_
      refine Dr.p 6 rfl rfl (by kernel_rfl) (ev_move rfl) ?_
      refine Dr.p 7 rfl rfl (by kernel_rfl) (ev_nil rfl) ?_
      refine Dr.p 8 rfl rfl (by kernel_rfl) (ev_field (off := 0) rfl rfl) ?_
      refine Dr.ld 9 rfl rfl (by kernel_rfl) (ev_load1 rfl rfl) (cellIs rfl) ?_
      refine Dr.run 10 rfl rfl (by kernel_rfl) (o_call rfl rfl rfl hE (now_does w) (Ent.refl _) ?_)
      rintro v m ⟨rfl, rfl⟩
      refine At.app1 ?_
      refine Dr.kept [false, true] (by kernel_rfl) (Kept.cons (cellIs rfl) Kept.nil) ?_
      refine Dr.p 11 rfl rfl (by kernel_rfl) (ev_add (r := ((S.now + 1 : Nat) : Int)) rfl rfl (by rw [mu64]; omega)) ?_
      refine Dr.p 12 rfl rfl (by kernel_rfl) (ev_max (r := ((max a (S.now + 1) : Nat) : Int)) rfl rfl (by omega)) ?_
      refine Dr.p 13 rfl rfl (by kernel_rfl) (ev_min (r := ((FK.atOf S.now a : Nat) : Int)) rfl rfl (by unfold FK.atOf; omega)) ?_
      refine Dr.run 14 rfl rfl (by kernel_rfl) (o_call rfl rfl rfl hE (set_does w k (FK.atOf S.now a) h (by rw [← kd_keys]; exact c7) (FK.atOf_ge hnow) (FK.atOf_le _ _) hsq (by omega)) (Ent.refl _) ?_)
      rintro v m ⟨rfl, S', hI', hn', hs', hk', rfl⟩
      refine At.app1 ?_
      refine Dr.kept [false] (by kernel_rfl) Kept.nil ?_
      refine Dr.done (by kernel_rfl) ?_
      refine At.then ?_
      refine At.seq ?_
      refine At.region ?_
      refine L.as rfl rfl ?_
      refine L.nil ?_
      refine At.then ?_
      refine At.ret ?_
      exact At.ret1 [_] rfl rfl ⟨by rw [hR]; rfl, S', hI', hn', by omega, by rw [hR, hk'], rfl⟩ Ent.closeFkw'

theorem erase_kd {a b : List FK.Tmr} {t : FK.Tmr} (h : ((a ++ t :: b).map FK.Tmr.key).Nodup) : ((a ++ t :: b).map FK.kd).eraseP (·.1 == t.key) = (a ++ b).map FK.kd := by
  have ha := (FK.nodup_mid h).1
  rw [List.map_append, List.map_append, List.eraseP_append_right, List.map_cons, List.eraseP_cons_of_pos]
  · simp [FK.kd]
  · intro p hp
    obtain ⟨u, hu, rfl⟩ := List.mem_map.1 hp
    simpa [FK.kd] using ha u hu

set_option maxRecDepth 10000 in
set_option maxHeartbeats 1000000 in
theorem fcancel_does {S : FK.WS} (x : Nat) (k : Int) (h : FK.Inv S []) (hln : S.tms.length ≤ 200) :
    Does Tryd.prog G 45 [ptr x, .int .i64 k].toArray [fkw x S]
      fun v m => v = errV (FK.cancelR (S.tms.map FK.kd) k).1 ∧ ∃ S' : FK.WS, FK.Inv S' [] ∧ S'.now = S.now ∧ S'.seq = S.seq ∧ S'.tms.map FK.kd = (FK.cancelR (S.tms.map FK.kd) k).2 ∧ m = [fkw x S'] := by
  refine Does.body Tryd.func45 rfl rfl fun E fr hE => ?_
  refine At.app1 ?_
  refine At.openFkw .head fun w => ?_
  refine At.seq ?_
  refine At.region ?_
  refine L.as rfl rfl ?_
  refine L.nil ?_
  refine At.then ?_
  refine At.seq ?_
  refine At.seq ?_
  refine At.region ?_
  refine L.mv rfl rfl ?_
  refine L.nc rfl rfl ?_
  refine L.fa 0 rfl rfl rfl ?_
  refine L.ld rfl rfl rfl rfl ?_
  refine L.mv rfl rfl ?_
  refine L.op rfl (o_call rfl rfl rfl hE (has_does w k h) (Ent.sel (.tail (.head))) ?_)
  rintro v m ⟨rfl, rfl⟩
  refine At.app1 ?_
  refine L.pure rfl (ev_not (r := decide (k ∉ (S.tms.map FK.kd).map (·.1))) rfl (by rw [decide_not])) ?_
  refine L.nil ?_
  refine At.then ?_
  refine At.condD rfl (fun c11 => ?_) (fun c11 => ?_)
  ·
    have hR : FK.cancelR (S.tms.map FK.kd) k = (8, S.tms.map FK.kd) := by rw [FK.cancelR, if_neg c11]
    refine At.seq ?_
    refine At.region ?_
    refine L.pure rfl (ev_iface rfl rfl rfl) ?_
    refine L.as rfl rfl ?_
    refine L.nil ?_
    refine At.then ?_
    refine At.ret ?_
    refine At.thenRet ?_
    exact At.ret1 [_] rfl rfl ⟨by rw [hR]; rfl, S, h, rfl, rfl, by rw [hR], rfl⟩ Ent.closeFkw'
  ·
    have hin : k ∈ (S.tms.map FK.kd).map (·.1) := Classical.not_not.1 c11
    have hR : FK.cancelR (S.tms.map FK.kd) k = (0, (S.tms.map FK.kd).eraseP (·.1 == k)) := by rw [FK.cancelR, if_pos hin]
    rw [kd_keys] at hin
    obtain ⟨t, ht, rfl⟩ := List.mem_map.1 hin
    obtain ⟨a, b, hS⟩ := List.append_of_mem ht
    have hkeys := h.keys
    rw [hS] at hkeys
    refine At.skip ?_
    refine At.then ?_
    refine At.seq ?_
    refine At.region ?_
    refine L.mv rfl rfl ?_
    refine L.nc rfl rfl ?_
    refine L.fa 0 rfl rfl rfl ?_
    refine L.ld rfl rfl rfl rfl ?_
    refine L.mv rfl rfl ?_
    refine L.op rfl (o_call rfl rfl rfl hE (drop_some w h hS (by omega)) (Ent.sel .head) ?_)
    rintro v m ⟨rfl, rfl⟩
    refine At.app2 ?_
    refine L.nil ?_
    refine At.then ?_
    refine At.seq ?_
    refine At.region ?_
    refine L.as rfl rfl ?_
    refine L.nil ?_
    refine At.then ?_
    refine At.ret ?_
    exact At.ret1 [_] rfl rfl ⟨by rw [hR]; rfl, S.drop a t b, h.drop hS, rfl, rfl, by rw [hR, hS, erase_kd hkeys]; rfl, rfl⟩ ((Ent.cons Ent.drop).trans Ent.closeFkw')

/-- what next is told -/
def NextV (L : List FK.KD) (v : Value) : Prop := (L = [] ∧ v = .tuple #[.int .u64 0, .bool false]) ∨ ∃ (x : FK.KD) (L' : List FK.KD), FK.IsMin L x L' ∧ v = .tuple #[.int .u64 x.2, .bool true]

set_option maxRecDepth 10000 in
theorem fnext_does {S : FK.WS} (x : Nat) (h : FK.Inv S []) (hln : S.tms.length ≤ 200) :
    Does Tryd.prog Good 25 [ptr x].toArray [fkw x S] fun v m => NextV (S.tms.map FK.kd) v ∧ m = [fkw x S] := by
  refine Does.body Tryd.func25 rfl rfl fun E fr hE => ?_
  refine At.app1 ?_
  refine At.openFkw .head fun w => ?_
  refine At.seq ?_
  refine At.region ?_
  refine L.as rfl rfl ?_
  refine L.as rfl rfl ?_
  refine L.nil ?_
  refine At.then ?_
  refine At.seq ?_
  refine At.region ?_
  refine L.mv rfl rfl ?_
  refine L.nc rfl rfl ?_
  refine L.fa 0 rfl rfl rfl ?_
  refine L.ld rfl rfl rfl rfl ?_
  refine L.op rfl (o_call rfl rfl rfl hE (next_does w h (by omega)) (Ent.sel (.tail (.head))) ?_)
  rintro v m ⟨hN, rfl⟩
  refine At.app1 ?_
  obtain ⟨k0, a0, ok, rfl, hN'⟩ : ∃ (k0 : Int) (a0 : Nat) (ok : Bool), v = .tuple #[.int .i64 k0, .int .u64 a0, .bool ok] ∧ NextV (S.tms.map FK.kd) (.tuple #[.int .u64 a0, .bool ok]) := by
    rcases hN with ⟨h0, rfl⟩ | ⟨x, L', hm, rfl⟩
    · exact ⟨0, 0, false, rfl, .inl ⟨by rw [h0]; rfl, rfl⟩⟩
    · exact ⟨x.1, x.2, true, rfl, .inr ⟨x, L', hm, rfl⟩⟩
  refine L.mv rfl rfl ?_
  refine L.ex rfl rfl rfl ?_
  refine L.ex rfl rfl rfl ?_
  refine L.ex rfl rfl rfl ?_
  refine L.as rfl rfl ?_
  refine L.as rfl rfl ?_
  refine L.as rfl rfl ?_
  refine L.nil ?_
  refine At.then ?_
  refine At.seq ?_
  refine At.region ?_
  refine L.mv rfl rfl ?_
  refine L.mv rfl rfl ?_
  refine L.as rfl rfl ?_
  refine L.as rfl rfl ?_
  refine L.nil ?_
  refine At.then ?_
  refine At.ret ?_
  exact At.ret2 [_] rfl rfl rfl ⟨hN', rfl⟩ Ent.closeFkw'

/-- what has fired, in memory -/
def firedV (o : List FK.KD) : List Value := o.flatMap fun x => [.int .i64 x.1, .int .u64 x.2]
theorem infoFired : elemIs Tryd.prog 63 (.agg #[.int .i64 0, .int .u64 0]) 2 16 := by unfold elemIs; kernel_rfl
/-- the time up to which is asked -/
def toOf (now n : Nat) : Nat := if 18446744073709551616 ≤ now + n then 4611686018427387904 else min (now + n) 4611686018427387904
theorem toOf_le (now n : Nat) : toOf now n ≤ 4611686018427387904 := by unfold toOf; split <;> omega
theorem toOf_ge {now : Nat} (n : Nat) (h : now ≤ 4611686018427387904) : now ≤ toOf now n := by unfold toOf; split <;> omega

set_option maxRecDepth 10000 in
set_option maxHeartbeats 1000000 in
theorem fadvance_does {S : FK.WS} (x n : Nat) (h : FK.Inv S []) (hn : n < 18446744073709551616) (hsq : S.seq < 9223372036854775808) (hln : S.tms.length ≤ 200) :
    Does Tryd.prog Good 24 [ptr x, .int .u64 n].toArray [fkw x S]
      fun v m => ∃ (o : List FK.KD) (S' : FK.WS), FK.Pops (toOf S.now n) (S.tms.map FK.kd) o (S'.tms.map FK.kd) ∧ FK.Inv S' [] ∧ S'.now = toOf S.now n ∧ S'.seq = S.seq ∧ (v = .slice none 0 0 ↔ o = []) ∧ m = [row 63 2 v o.length (firedV o), fkw x S'] := by
  have hnow : S.now ≤ 4611686018427387904 := h.nowle
  obtain ⟨up, hup⟩ : ∃ up, up = toOf S.now n := ⟨_, rfl⟩
  have hup1 : S.now ≤ up := by rw [hup]; exact toOf_ge _ hnow
  have hup2 : up ≤ 4611686018427387904 := by rw [hup]; exact toOf_le _ _
  rw [← hup]
  obtain ⟨q, hq⟩ : ∃ q, q = (S.now + n) % 18446744073709551616 := ⟨_, rfl⟩
  have hlm : (S.tms.map FK.kd).length = S.tms.length := List.length_map _
  refine Does.body Tryd.func24 rfl rfl fun E fr hE => ?_
  refine At.app1 ?_
  refine At.openFkw .head fun w => ?_
  refine At.seq ?_
  refine At.region ?_
  refine L.as rfl rfl ?_
  refine L.nil ?_
  refine At.then ?_
  refine At.seq ?_
  refine At.region ?_
  refine L.mv rfl rfl ?_
  refine L.nc rfl rfl ?_
  refine L.fa 0 rfl rfl rfl ?_
  refine L.ld rfl rfl rfl rfl ?_
  refine L.op rfl (o_call rfl rfl rfl hE (now_does w) (Ent.sel (.tail (.head))) ?_)
  rintro v m ⟨rfl, rfl⟩
  refine At.app1 ?_
  refine L.mv rfl rfl ?_
  refine L.pure rfl (ev_add (r := (q : Int)) rfl rfl (by rw [mu64]; omega)) ?_
  refine L.as rfl rfl ?_
  refine L.nil ?_
  refine At.then ?_
  refine At.seq (At.cut (X := Nat) (fun y => [(5, .int .u64 y), (0, ptr x)]) (fun _ => fkw x S :: fr) (fun y => min y 4611686018427387904 = up) ?_ ?_)
  ·
    refine At.seq ?_
    refine At.region ?_
    refine L.mv rfl rfl ?_
    refine L.mv rfl rfl ?_
    refine L.pure rfl (ev_lss rfl rfl rfl) ?_
    refine L.nil ?_
    refine At.then ?_
    refine At.condD rfl (fun c19 => ?_) (fun c19 => ?_)
    ·
      refine At.region ?_
      refine L.as rfl rfl ?_
      refine L.nil ?_
      exact At.meet 4611686018427387904 (by rw [hup, toOf, if_pos (by omega)]; omega) ⟨rfl, rfl, trivial⟩ Ent.closeFkw'
    ·
      refine At.skip ?_
      exact At.meet q (by rw [hup, toOf, if_neg (by omega), hq, Nat.mod_eq_of_lt (by omega)]) ⟨rfl, rfl, trivial⟩ Ent.closeFkw'
  intro y hy
  refine At.seq ?_
  refine At.region ?_
  refine L.as rfl rfl ?_
  refine L.nil ?_
  refine At.then ?_
  refine At.block ?_
  refine At.loop (X := FK.WS × List FK.KD × Value) (fun p => [(5, .int .u64 y), (6, p.2.2), (0, ptr x)]) (fun p => row 63 2 p.2.2 p.2.1.length (firedV p.2.1) :: fkw x p.1 :: fr) (fun p => FK.Inv p.1 [] ∧ p.1.now ≤ up ∧ p.1.seq = S.seq ∧ FK.Till up (S.tms.map FK.kd) p.2.1 (p.1.tms.map FK.kd) ∧ p.2.1.length + p.1.tms.length ≤ 200 ∧ (p.2.2 = .slice none 0 0 ↔ p.2.1 = [])) (fun p => p.1.tms.length) (S, [], .slice none 0 0) ⟨h, hup1, rfl, FK.Till.refl _ _, by simpa using hln, by simp⟩ ⟨rfl, rfl, rfl, trivial⟩ Ent.row0 ?_
  rintro ⟨T, o, sv⟩ ⟨hT, hTup, hTsq, hTill, hTln, hv⟩
  replace hT : FK.Inv T [] := hT
  replace hTup : T.now ≤ up := hTup
  replace hTsq : T.seq = S.seq := hTsq
  replace hTill : FK.Till up (S.tms.map FK.kd) o (T.tms.map FK.kd) := hTill
  replace hTln : o.length + T.tms.length ≤ 200 := hTln
  replace hv : sv = .slice none 0 0 ↔ o = [] := hv
  refine At.ent (l' := row 63 2 sv o.length (firedV o) :: fkw x T :: fr) (Ent.refl _) ?_
  refine At.openFkw (.tail (.head)) fun w' => ?_
  refine At.block ?_
  refine At.seq ?_
  refine At.region ?_
  refine L.mv rfl rfl ?_
  refine L.nc rfl rfl ?_
  refine L.fa 0 rfl rfl rfl ?_
  refine L.ld rfl rfl rfl rfl ?_
  refine L.mv rfl rfl ?_
  refine L.pure rfl (ev_min (r := (up : Int)) rfl rfl (by omega)) ?_
  refine L.op rfl (o_call rfl rfl rfl hE (pop_does w' up hT hTup hup2 (by omega) (by omega)) (Ent.sel (.tail (.head))) ?_)
  rintro v m hP
  obtain ⟨T', k1, a1, ok, hI', hsq', hok, hno, rfl, rfl⟩ : ∃ (T' : FK.WS) (k1 : Int) (a1 : Nat) (ok : Bool), FK.Inv T' [] ∧ T'.seq = S.seq ∧ (ok = true → FK.IsMin (T.tms.map FK.kd) (k1, a1) (T'.tms.map FK.kd) ∧ a1 ≤ up ∧ T'.now ≤ up) ∧ (ok = false → (∀ y ∈ T.tms.map FK.kd, up < y.2) ∧ T'.tms.map FK.kd = T.tms.map FK.kd ∧ T'.now = up) ∧ v = .tuple #[.int .i64 k1, .int .u64 a1, .bool ok] ∧ m = [wheelAt w' T'] := by
    rcases hP with ⟨T', x1, hm, hle, hI', hn', hs', rfl, rfl⟩ | ⟨T', hall, hk', hI', hn', hs', rfl, rfl⟩
    · exact ⟨T', x1.1, x1.2, true, hI', hs'.trans hTsq, fun _ => ⟨hm, hle, by omega⟩, (fun h => by cases h), rfl, rfl⟩
    · exact ⟨T', 0, 0, false, hI', hs'.trans hTsq, (fun h => by cases h), fun _ => ⟨hall, hk', hn'⟩, rfl, rfl⟩
  refine At.app1 ?_
  refine L.mv rfl rfl ?_
  refine L.ex rfl rfl rfl ?_
  refine L.ex rfl rfl rfl ?_
  refine L.ex rfl rfl rfl ?_
  refine L.as rfl rfl ?_
  refine L.as rfl rfl ?_
  refine L.as rfl rfl ?_
  refine L.nil ?_
  refine At.then ?_
  refine At.seq ?_
  refine At.seq ?_
  refine At.region ?_
  refine L.mv rfl rfl ?_
  refine L.pure rfl (ev_not rfl rfl) ?_
  refine L.nil ?_
  refine At.then ?_
  refine At.cond rfl (fun c32 => ?_) (fun c32 => ?_)
  ·
    obtain ⟨h1, h2, h3⟩ := hno (by simpa using c32)
    refine At.seq ?_
    refine At.region ?_
    refine L.mv rfl rfl ?_
    refine L.as rfl rfl ?_
    refine L.nil ?_
    refine At.then ?_
    refine At.ret ?_
    refine At.thenRet (At.inBlockRet (At.roundRet (At.inBlockRet ?_)))
    exact At.ret1 [_, _] rfl rfl ⟨o, T', h2 ▸ hTill.done h1, hI', h3, hsq', hv, rfl⟩ ((Ent.sel (.tail (.tail (.head)))).trans (Ent.cons Ent.closeFkw'))
  ·
    obtain ⟨h1, h2, h3⟩ := hok (by simpa using c32)
    have hlen := h1.len
    rw [List.length_map, List.length_map] at hlen
    refine At.skip ?_
    refine At.then ?_
    refine At.region ?_
    refine L.mv rfl rfl ?_
    refine L.mv rfl rfl ?_
    refine L.mv rfl rfl ?_
    refine L.pure rfl (ev_build (cs := #[.int .i64 k1, .int .u64 a1]) rfl rfl rfl rfl rfl) ?_
    refine L.op rfl (o_slices (m := 1) (z := .agg #[.int .i64 0, .int .u64 0]) (size := 2) (ps := [(0, .tmp 37)]) (vs := [.agg #[.int .i64 k1, .int .u64 a1]]) (cs := #[.int .i64 k1, .int .u64 a1]) rfl rfl rfl rfl (by omega) (by omega) rfl (by kernel_rfl) fun b38 => ?_)
    refine L.op rfl (o_append rfl rfl infoFired rfl (by omega) rfl rfl (.tail (.tail (.tail (.head)))) (news := [.int .i64 k1, .int .u64 a1]) rfl (fun h => by cases h) (srcIs (fun j u h => by simpa using h)) (by simp [Value.oneCell']) (by unfold maxLen; omega) (by omega) fun v' hv' => ?_)
    refine L.as rfl rfl ?_
    refine L.nil ?_
    refine At.inBlock ?_
    exact At.round (T', o ++ [(k1, a1)], v') ⟨hI', h3, hsq', hTill.one h1 h2, by simp only [List.length_append, List.length_cons, List.length_nil]; omega, by rw [hv']; simp⟩ (by show T'.tms.length < T.tms.length; omega) ⟨rfl, rfl, rfl, trivial⟩ (by
      have e : firedV (o ++ [(k1, a1)]) = firedV o ++ [.int .i64 k1, .int .u64 a1] := by simp [firedV]
      simp only [List.length_append, List.length_cons, List.length_nil]
      rw [e]
      exact Ent.cons (Ent.drop.trans Ent.closeFkw'))

/-! ### plain's calls -/
set_option maxRecDepth 10000 in
theorem number_nil : Does Tryd.prog Good 43 [.nilIface].toArray [] fun v m => v = .int .i64 0 ∧ m = [] := by
  refine Does.body Tryd.func43 rfl rfl fun E fr hE => ?_
  refine At.app0 ?_
  refine At.seq ?_
  refine At.region ?_
  refine L.as rfl rfl ?_
  refine L.nil ?_
  refine At.then ?_
  refine At.seq ?_
  refine At.region ?_
  refine L.mv rfl rfl ?_
  refine L.op rfl (o_call rfl rfl rfl hE told_nil (Ent.refl _) ?_)
  rintro v m ⟨rfl, rfl⟩
  refine At.app0 ?_
  refine L.mv rfl rfl ?_
  refine L.ex rfl rfl rfl ?_
  refine L.ex rfl rfl rfl ?_
  refine L.as rfl rfl ?_
  refine L.as rfl rfl ?_
  refine L.nil ?_
  refine At.then ?_
  refine At.seq ?_
  refine At.region ?_
  refine L.mv rfl rfl ?_
  refine L.as rfl rfl ?_
  refine L.nil ?_
  refine At.then ?_
  refine At.ret ?_
  exact At.ret1 [] rfl rfl ⟨rfl, rfl⟩ (Ent.refl _)
set_option maxRecDepth 10000 in
theorem number_errno (n : Int) : Does Tryd.prog Good 43 [.iface 26 (.int .i64 n)].toArray [] fun v m => v = .int .i64 n ∧ m = [] := by
  refine Does.body Tryd.func43 rfl rfl fun E fr hE => ?_
  refine At.app0 ?_
  refine At.seq ?_
  refine At.region ?_
  refine L.as rfl rfl ?_
  refine L.nil ?_
  refine At.then ?_
  refine At.seq ?_
  refine At.region ?_
  refine L.mv rfl rfl ?_
  refine L.op rfl (o_call rfl rfl rfl hE (told_errno n) (Ent.refl _) ?_)
  rintro v m ⟨rfl, rfl⟩
  refine At.app0 ?_
  refine L.mv rfl rfl ?_
  refine L.ex rfl rfl rfl ?_
  refine L.ex rfl rfl rfl ?_
  refine L.as rfl rfl ?_
  refine L.as rfl rfl ?_
  refine L.nil ?_
  refine At.then ?_
  refine At.seq ?_
  refine At.region ?_
  refine L.mv rfl rfl ?_
  refine L.as rfl rfl ?_
  refine L.nil ?_
  refine At.then ?_
  refine At.ret ?_
  exact At.ret1 [] rfl rfl ⟨rfl, rfl⟩ (Ent.refl _)
theorem errno_does (n : Int) : Does Tryd.prog Good 43 [errV n].toArray [] fun v m => v = .int .i64 n ∧ m = [] := by
  unfold errV
  split
  · subst n
    exact number_nil
  · exact number_errno n

set_option maxRecDepth 10000 in
theorem pset_does {S : FK.WS} (x : Nat) (k : Int) (a : Nat) (h : FK.Inv S []) (ha : a < 18446744073709551616) (hsq : S.seq < 9223372036854775807) (hln : S.tms.length ≤ 200) :
    Does Tryd.prog Good 22 [ptr x, .int .i64 k, .int .u64 a].toArray [fkw x S]
      fun v m => v = .int .i64 (FK.setR S.now (S.tms.map FK.kd) k a).1 ∧ ∃ S' : FK.WS, FK.Inv S' [] ∧ S'.now = S.now ∧ S'.seq ≤ S.seq + 1 ∧ S'.tms.map FK.kd = (FK.setR S.now (S.tms.map FK.kd) k a).2 ∧ m = [fkw x S'] := by
  refine Does.body Tryd.func22 rfl rfl fun E fr hE => ?_
  refine At.app1 ?_
  refine At.seq ?_
  refine At.region ?_
  refine L.as rfl rfl ?_
  refine L.nil ?_
  refine At.then ?_
  refine At.seq ?_
  refine At.region ?_
  refine L.mv rfl rfl ?_
  refine L.mv rfl rfl ?_
  refine L.mv rfl rfl ?_
  refine L.op rfl (o_call rfl rfl rfl hE (fset_does x k a h ha hsq hln) (Ent.refl _) ?_)
  rintro v m ⟨rfl, S', hI', hn', hs', hk', rfl⟩
  refine At.app1 ?_
  refine L.op rfl (o_call rfl rfl rfl hE (errno_does _) (Ent.refl _) ?_)
  rintro v m ⟨rfl, rfl⟩
  refine At.app0 ?_
  refine L.as rfl rfl ?_
  refine L.nil ?_
  refine At.then ?_
  refine At.ret ?_
  exact At.ret1 [_] rfl rfl ⟨rfl, S', hI', hn', hs', hk', rfl⟩ (Ent.refl _)
set_option maxRecDepth 10000 in
theorem pcancel_does {S : FK.WS} (x : Nat) (k : Int) (h : FK.Inv S []) (hln : S.tms.length ≤ 200) :
    Does Tryd.prog Good 23 [ptr x, .int .i64 k].toArray [fkw x S]
      fun v m => v = .int .i64 (FK.cancelR (S.tms.map FK.kd) k).1 ∧ ∃ S' : FK.WS, FK.Inv S' [] ∧ S'.now = S.now ∧ S'.seq = S.seq ∧ S'.tms.map FK.kd = (FK.cancelR (S.tms.map FK.kd) k).2 ∧ m = [fkw x S'] := by
  refine Does.body Tryd.func23 rfl rfl fun E fr hE => ?_
  refine At.app1 ?_
  refine At.seq ?_
  refine At.region ?_
  refine L.as rfl rfl ?_
  refine L.nil ?_
  refine At.then ?_
  refine At.seq ?_
  refine At.region ?_
  refine L.mv rfl rfl ?_
  refine L.mv rfl rfl ?_
  refine L.op rfl (o_call rfl rfl rfl hE (fcancel_does x k h hln) (Ent.refl _) ?_)
  rintro v m ⟨rfl, S', hI', hn', hs', hk', rfl⟩
  refine At.app1 ?_
  refine L.op rfl (o_call rfl rfl rfl hE (errno_does _) (Ent.refl _) ?_)
  rintro v m ⟨rfl, rfl⟩
  refine At.app0 ?_
  refine L.as rfl rfl ?_
  refine L.nil ?_
  refine At.then ?_
  refine At.ret ?_
  exact At.ret1 [_] rfl rfl ⟨rfl, S', hI', hn', hs', hk', rfl⟩ (Ent.refl _)
end Go.Proofs.YtagkobkmaigfcaaDoor

/- The document's wheel: Set, Cancel, Next, Advance. -/
namespace Go.SL
open Go Go.RowKit
section
variable {P : Program} {E : Env} {n : Nat} {D : List Deferred} {ts : List (Nat × Value)} {l : List HP}
theorem ev_headZ {t e : TypeId} {x o : Operand} {b m c a z : Nat} {A : Option Addr} {k : IntKind} (ht : P.underlying t = some (.slice e)) (hz : sizeIs P e z) (hA : A = some ⟨b, 0, none⟩) (hx : ev ts x = some (.slice A m c)) (ho : ev ts o = some (.int k (a : Int))) (h2 : a ≤ c) :
    Ev P ts (.slice t x none (some o) none) (.slice A a c) Any := by
  subst hA
  have := ev_slice (P := P) (lo := none) (hi := some o) (a := 0) (b := a) ht hz hx rfl ⟨k, ho⟩ (Nat.zero_le _) h2
  simpa [add_plain] using this
/-- where a slice's tail begins -/
def tailAt (b c a z : Nat) : Addr := if c = a then ⟨b, 0, none⟩ else ⟨b, a * z, none⟩
theorem ev_tailZ {t e : TypeId} {x o : Operand} {b m c a z : Nat} {k : IntKind} (ht : P.underlying t = some (.slice e)) (hz : sizeIs P e z) (hx : ev ts x = some (.slice (some ⟨b, 0, none⟩) m c)) (ho : ev ts o = some (.int k (a : Int))) (h1 : a ≤ m) (h2 : m ≤ c) :
    Ev P ts (.slice t x (some o) none none) (.slice (some (tailAt b c a z)) (m - a) (c - a)) Any := by
  have := ev_slice (P := P) (lo := some o) (hi := none) (a := a) (b := m) ht hz hx ⟨k, ho⟩ rfl h1 h2
  have e : (if c = a then (some ⟨b, 0, none⟩ : Option Addr) else (some ⟨b, 0, none⟩ : Option Addr).map (·.add (a * z))) = some (tailAt b c a z) := by
    unfold tailAt
    split <;> simp [add_plain]
  rwa [e] at this
theorem srcTail {e : TypeId} {size m g c a : Nat} {xs news : List Value} {r : List HP} (s : Sel (row e size (.slice (some ⟨g, 0, none⟩) m c) m xs) l r) (h1 : c = a → news = []) (h : ∀ j u, news[j]? = some u → xs[a * size + j]? = some u) : ∀ w, Holds E w l → SrcIs (some (tailAt g c a size)) news w := by
  by_cases hc : c = a
  · intro w _ ad _ j u hj
    rw [h1 hc] at hj
    simp at hj
  · have : tailAt g c a size = ⟨g, a * size, none⟩ := if_neg hc
    rw [this]
    exact srcRow s h
end
end Go.SL
namespace Go.Proofs.YtagkobkmaigfcaaDoor
open Go Go.RowKit Go.SL
variable {G : Env → Prop}

theorem rtV_take (rs : List RT) (i : Nat) : (rtV rs).take (i * 3) = rtV (rs.take i) := flatx_take rtC_len rs i
theorem rtV_drop (rs : List RT) (i : Nat) : (rtV rs).drop (i * 3) = rtV (rs.drop i) := flatx_drop rtC_len rs i
theorem rtV_len (rs : List RT) : (rtV rs).length = rs.length * 3 := flatx_len rtC_len rs
theorem rtV_app (a b : List RT) : rtV (a ++ b) = rtV a ++ rtV b := by simp [rtV]
theorem rtV_one (x : RT) : rtV [x] = rtC x := by simp [rtV]
theorem rtV_one' (x : RT) : ∀ v ∈ rtV [x], v.oneCell' = true := by rw [rtV_one]; simp [rtC, Value.oneCell']
theorem rtV_cell (rs : List RT) : ∀ v ∈ rtV rs, v.oneCell' = true := by
  intro v hv
  obtain ⟨x, _, hx⟩ := List.mem_flatMap.1 hv
  simp only [rtC, List.mem_cons, List.not_mem_nil, or_false] at hx
  rcases hx with rfl | rfl | rfl <;> rfl

theorem rkeys (rs : List RT) : (rs.map (·.1)).map (·.1) = rs.map fun x => x.1.1 := by rw [List.map_map]; rfl
theorem key_only {rs : List RT} (h : (rs.map fun x => x.1.1).Nodup) {i j : Nat} {x y : RT} (hx : rs[i]? = some x) (hy : rs[j]? = some y) (e : x.1.1 = y.1.1) : i = j := by
  obtain ⟨hi, ei⟩ := List.getElem?_eq_some_iff.1 hx
  obtain ⟨hj, ej⟩ := List.getElem?_eq_some_iff.1 hy
  have := (List.getElem_inj (i := i) (j := j) (h₀ := by simpa using hi) (h₁ := by simpa using hj) h).1 (by simp [ei, ej, e])
  exact this
theorem erase_first : ∀ {rs : List RT} {i : Nat} {x : RT}, rs[i]? = some x → (∀ j y, j < i → rs[j]? = some y → y.1.1 ≠ x.1.1) → (rs.map (·.1)).eraseP (·.1 == x.1.1) = (rs.eraseIdx i).map (·.1)
  | [], i, x, h, _ => by simp at h
  | a :: rs, 0, x, h, _ => by
    simp at h; subst h
    simp
  | a :: rs, i + 1, x, h, hn => by
    have h0 := hn 0 a (by omega) rfl
    have ih := erase_first (rs := rs) (i := i) (x := x) (by simpa using h) fun j y hj hy => hn (j + 1) y (by omega) (by simpa using hy)
    rw [List.map_cons, List.eraseP_cons_of_neg (by simpa using h0), ih, List.eraseIdx_cons_succ, List.map_cons]
theorem ROk.erase {rs : List RT} {sq : Nat} (h : ROk rs sq) (i : Nat) : ROk (rs.eraseIdx i) sq where
  seqs := h.seqs.sublist (List.eraseIdx_sublist _ _)
  le := fun x hx => h.le x ((List.eraseIdx_sublist _ _).subset hx)
  due := fun x hx => h.due x ((List.eraseIdx_sublist _ _).subset hx)
  keys := h.keys.sublist ((List.eraseIdx_sublist _ _).map _)
  len := Nat.le_trans (List.eraseIdx_sublist _ _).length_le h.len
theorem ROk.snoc {rs : List RT} {sq : Nat} (h : ROk rs sq) {k : Int} {a : Nat} (hk : k ∉ rs.map fun x => x.1.1) (ha : a ≤ 4611686018427387904) (hl : rs.length ≠ 200) : ROk (rs ++ [((k, a), sq + 1)]) (sq + 1) where
  seqs := by
    rw [List.pairwise_append]
    refine ⟨h.seqs, by simp, fun x hx y hy => ?_⟩
    simp at hy; subst hy
    have := h.le x hx
    show x.2 < sq + 1
    omega
  le := fun x hx => by
    rcases List.mem_append.1 hx with hx | hx
    · have := h.le x hx; omega
    · simp at hx; subst hx; exact Nat.le_refl _
  due := fun x hx => by
    rcases List.mem_append.1 hx with hx | hx
    · exact h.due x hx
    · simp at hx; subst hx; exact ha
  keys := by
    rw [List.map_append, List.nodup_append]
    refine ⟨h.keys, by simp, fun x hx y hy e => ?_⟩
    simp at hy
    exact hk (by rw [← hy, ← e]; exact hx)
  len := by have := h.len; simp; omega

set_option maxRecDepth 10000 in
set_option maxHeartbeats 1000000 in
theorem rset_does {rs : List RT} (m now sq : Nat) (k : Int) (a : Nat) (h : ROk rs sq) (hnow : now ≤ 4611686018427387904) (ha : a < 18446744073709551616) (hsq : sq < 9223372036854775807) :
    Does Tryd.prog G 39 [ptr m, .int .i64 k, .int .u64 a].toArray [rw m now rs sq]
      fun v r => v = .int .i64 (FK.setR now (rs.map (·.1)) k a).1 ∧ ∃ (rs' : List RT) (sq' : Nat), ROk rs' sq' ∧ sq' ≤ sq + 1 ∧ rs'.map (·.1) = (FK.setR now (rs.map (·.1)) k a).2 ∧ r = [rw m now rs' sq'] := by
  have hlen := h.len
  have hlm : (rs.map (·.1)).length = rs.length := List.length_map _
  refine Does.body Tryd.func39 rfl rfl fun E fr hE => ?_
  refine At.app1 ?_
  refine At.openRw .head fun A c hnil hform hc1 hc2 => ?_
  refine At.seq ?_
  refine At.region ?_
  refine L.as rfl rfl ?_
  refine L.nil ?_
  refine At.then ?_
  refine At.seq ?_
  refine At.seq ?_
  refine At.region ?_
  refine L.as rfl rfl ?_
  refine L.nil ?_
  refine At.then ?_
  refine At.block ?_
  refine At.loop (X := Nat) (fun i => [(7, .int .i64 (i : Nat)), (0, ptr m), (1, .int .i64 k), (2, .int .u64 a)]) (fun _ => blk m 52 #[.int .u64 now, .slice A rs.length c, .int .i64 sq] :: rtAt (.slice A rs.length c) rs :: fr) (fun i => i ≤ rs.length ∧ ∀ j y, j < i → rs[j]? = some y → y.1.1 ≠ k) (fun i => rs.length - i) 0 ⟨Nat.zero_le _, fun j y hj => by omega⟩ ⟨rfl, rfl, rfl, rfl, trivial⟩ (Ent.refl _) ?_
  rintro i ⟨hi, hno⟩
  refine At.seq ?_
  refine At.seq ?_
  refine At.region ?_
  refine L.mv rfl rfl ?_
  refine L.mv rfl rfl ?_
  refine L.nc rfl rfl ?_
  refine L.fa 1 rfl rfl rfl ?_
  refine L.ld rfl rfl rfl rfl ?_
  refine L.pure rfl (ev_lenS rfl rfl) ?_
  refine L.pure rfl (ev_lss rfl rfl rfl) ?_
  refine L.nil ?_
  refine At.then ?_
  refine At.condD rfl (fun c14 => ?_) (fun c14 => ?_)
  ·
    have hlt : i < rs.length := by omega
    obtain ⟨u, hu⟩ : ∃ u, rs[i]? = some u := ⟨rs[i], by simp [hlt]⟩
    obtain ⟨g, rfl⟩ : ∃ g, A = some ⟨g, 0, none⟩ := by
      cases A with
      | none => have := (hnil rfl).1; omega
      | some ad => obtain ⟨g, rfl⟩ := hform ad rfl; exact ⟨g, rfl⟩
    refine At.skip ?_
    refine At.then ?_
    refine At.seq ?_
    refine At.block ?_
    refine At.seq ?_
    refine At.region ?_
    refine L.mv rfl rfl ?_
    refine L.nc rfl rfl ?_
    refine L.fa 1 rfl rfl rfl ?_
    refine L.ld rfl rfl rfl rfl ?_
    refine L.mv rfl rfl ?_
    refine L.pure rfl (ev_ixN (z := 3) rfl rfl rfl rfl (by omega)) ?_
    refine L.fa 0 rfl rfl rfl ?_
    refine L.val rfl (ev_load1 rfl rfl) (rtCell (k := 0) (.tail (.head)) hu rfl) ?_
    refine L.mv rfl rfl ?_
    refine L.pure rfl (ev_eql rfl rfl rfl) ?_
    refine L.nil ?_
    refine At.then ?_
    refine At.condD rfl (fun c26 => ?_) (fun c26 => ?_)
    ·
      have hin : k ∈ (rs.map (·.1)).map (·.1) := by
        rw [rkeys]
        exact List.mem_map.2 ⟨u, List.mem_of_getElem? hu, c26⟩
      have hR : FK.setR now (rs.map (·.1)) k a = (8, rs.map (·.1)) := by rw [FK.setR, if_pos hin]
      refine At.seq ?_
      refine At.region ?_
      refine L.as rfl rfl ?_
      refine L.nil ?_
      refine At.then ?_
      refine At.ret ?_
      refine At.inBlockRet (At.thenRet (At.roundRet (At.inBlockRet (At.thenRet ?_))))
      exact At.ret1 [_] rfl rfl ⟨by rw [hR], rs, sq, h, by omega, by rw [hR], rfl⟩ Ent.closeRw
    ·
      refine At.skip ?_
      refine At.inBlock (At.then ?_)
      refine At.region ?_
      refine L.mv rfl rfl ?_
      refine L.pure rfl (ev_add (r := ((i + 1 : Nat) : Int)) rfl rfl (by rw [w64 (by omega)]; omega)) ?_
      refine L.as rfl rfl ?_
      refine L.nil ?_
      exact At.round (i + 1) ⟨hlt, fun j y hj hy => by
        rcases Nat.lt_or_ge j i with h' | h'
        · exact hno j y h' hy
        · obtain rfl : j = i := by omega
          rw [hu] at hy
          injection hy with hy
          subst hy
          exact c26⟩ (by omega) ⟨rfl, rfl, rfl, rfl, trivial⟩ (Ent.refl _)
  ·
    obtain rfl : i = rs.length := by omega
    have hout : k ∉ rs.map fun x => x.1.1 := fun hk => by
      obtain ⟨u, hu, e⟩ := List.mem_map.1 hk
      obtain ⟨j, hj⟩ := List.getElem?_of_mem hu
      exact hno j u (List.getElem?_eq_some_iff.1 hj).1 hj e
    have hout' : k ∉ (rs.map (·.1)).map (·.1) := by rw [rkeys]; exact hout
    refine At.exit ?_
    refine At.thenExit (At.roundExit (At.inBlockHit (At.then ?_)))
    refine At.seq ?_
    refine At.seq ?_
    refine At.region ?_
    refine L.mv rfl rfl ?_
    refine L.nc rfl rfl ?_
    refine L.fa 1 rfl rfl rfl ?_
    refine L.ld rfl rfl rfl rfl ?_
    refine L.pure rfl (ev_lenS rfl rfl) ?_
    refine L.pure rfl (ev_eql rfl rfl rfl) ?_
    refine L.nil ?_
    refine At.then ?_
    refine At.condD rfl (fun c32 => ?_) (fun c32 => ?_)
    ·
      have hR : FK.setR now (rs.map (·.1)) k a = (5, rs.map (·.1)) := by rw [FK.setR, if_neg hout', if_pos (by omega)]
      refine At.seq ?_
      refine At.region ?_
      refine L.as rfl rfl ?_
      refine L.nil ?_
      refine At.then ?_
      refine At.ret ?_
      refine At.thenRet ?_
      exact At.ret1 [_] rfl rfl ⟨by rw [hR], rs, sq, h, by omega, by rw [hR], rfl⟩ Ent.closeRw
    ·
      have hne : rs.length ≠ 200 := by omega
      have hR : FK.setR now (rs.map (·.1)) k a = (0, rs.map (·.1) ++ [(k, FK.atOf now a)]) := by rw [FK.setR, if_neg hout', if_neg (by omega)]
      refine At.skip ?_
      refine At.then ?_
      refine At.seq (At.cut (X := Nat) (fun y => [(0, ptr m), (1, .int .i64 k), (2, .int .u64 y)]) (fun _ => blk m 52 #[.int .u64 now, .slice A rs.length c, .int .i64 sq] :: rtAt (.slice A rs.length c) rs :: fr) (fun y => y = max a (now + 1)) ?_ ?_)
      ·
        refine At.seq ?_
        refine At.region ?_
        refine L.mv rfl rfl ?_
        refine L.mv rfl rfl ?_
        refine L.nc rfl rfl ?_
        refine L.fa 0 rfl rfl rfl ?_
        refine L.ld rfl rfl rfl rfl ?_
        refine L.pure rfl (ev_leq rfl rfl rfl) ?_
        refine L.nil ?_
        refine At.then ?_
        refine At.condD rfl (fun c38 => ?_) (fun c38 => ?_)
        ·
          refine At.region ?_
          refine L.mv rfl rfl ?_
          refine L.nc rfl rfl ?_
          refine L.fa 0 rfl rfl rfl ?_
          refine L.ld rfl rfl rfl rfl ?_
          refine L.pure rfl (ev_add (r := ((now + 1 : Nat) : Int)) rfl rfl (by rw [mu64]; omega)) ?_
          refine L.as rfl rfl ?_
          refine L.nil ?_
          exact At.meet (now + 1) (by omega) ⟨rfl, rfl, rfl, trivial⟩ (Ent.refl _)
        ·
          refine At.skip ?_
          exact At.meet a (by omega) ⟨rfl, rfl, rfl, trivial⟩ (Ent.refl _)
      intro y hy
      refine At.seq (At.cut (X := Nat) (fun y => [(0, ptr m), (1, .int .i64 k), (2, .int .u64 y)]) (fun _ => blk m 52 #[.int .u64 now, .slice A rs.length c, .int .i64 sq] :: rtAt (.slice A rs.length c) rs :: fr) (fun y => y = FK.atOf now a) ?_ ?_)
      ·
        refine At.seq ?_
        refine At.region ?_
        refine L.mv rfl rfl ?_
        refine L.pure rfl (ev_gtr rfl rfl rfl) ?_
        refine L.nil ?_
        refine At.then ?_
        refine At.condD rfl (fun c45 => ?_) (fun c45 => ?_)
        ·
          refine At.region ?_
          refine L.as rfl rfl ?_
          refine L.nil ?_
          exact At.meet 4611686018427387904 (by unfold FK.atOf; omega) ⟨rfl, rfl, rfl, trivial⟩ (Ent.refl _)
        ·
          refine At.skip ?_
          exact At.meet y (by unfold FK.atOf; omega) ⟨rfl, rfl, rfl, trivial⟩ (Ent.refl _)
      rintro _ rfl
      refine At.seq ?_
      refine At.region ?_
      refine L.mv rfl rfl ?_
      refine L.nc rfl rfl ?_
      refine L.fa 2 rfl rfl rfl ?_
      refine L.ld rfl rfl rfl rfl ?_
      refine L.pure rfl (ev_add (r := ((sq + 1 : Nat) : Int)) rfl rfl (by rw [w64 (by omega)]; omega)) ?_
      refine L.nc rfl rfl ?_
      refine L.fa 2 rfl rfl rfl ?_
      refine L.st rfl rfl rfl rfl (by first | decide | simp | (simp; omega)) ?_
      refine L.nil ?_
      refine At.then ?_
      refine At.seq ?_
      refine Dr.start rfl ?_
      refine Dr.p 0 rfl rfl (by kernel_rfl) (ev_move rfl) ?_
      refine Dr.p 1 rfl rfl (by kernel_rfl) (ev_move rfl) ?_
      refine Dr.p 2 rfl rfl (by kernel_rfl) (ev_nil rfl) ?_
      refine Dr.p 3 rfl rfl (by kernel_rfl) (ev_field (off := 1) rfl rfl) ?_
      refine Dr.ld 4 rfl rfl (by kernel_rfl) (ev_load1 rfl rfl) (cellIs rfl) ?_
      refine Dr.p 5 rfl rfl (by kernel_rfl) (ev_move rfl) ?_
      refine Dr.p 6 rfl rfl (by kernel_rfl) (ev_move rfl) ?_
      refine Dr.p 7 rfl rfl (by kernel_rfl) (ev_move rfl) ?_
      refine Dr.p 8 rfl rfl (by kernel_rfl) (ev_nil rfl) ?_
      refine Dr.p 9 rfl rfl (by kernel_rfl) (ev_field (off := 2) rfl rfl) ?_
      refine Dr.ld 10 rfl rfl (by kernel_rfl) (ev_load1 rfl rfl) (cellIs rfl) ?_
      refine Dr.p 11 rfl rfl (by kernel_rfl) (ev_build (cs := #[.int .i64 k, .int .u64 (FK.atOf now a), .int .i64 ((sq + 1 : Nat) : Int)]) rfl rfl rfl rfl rfl) ?_
      refine Dr.run 12 rfl rfl (by kernel_rfl) (o_slices (m := 1) (z := .agg #[.int .i64 0, .int .u64 0, .int .i64 0]) (size := 3) (ps := [(0, .tmp 64)]) (vs := [.agg #[.int .i64 k, .int .u64 (FK.atOf now a), .int .i64 ((sq + 1 : Nat) : Int)]]) (cs := #[.int .i64 k, .int .u64 (FK.atOf now a), .int .i64 ((sq + 1 : Nat) : Int)]) rfl rfl rfl rfl (by omega) (by omega) rfl (by kernel_rfl) fun b65 => ?_)
      refine Dr.kept [true, true] (by kernel_rfl) (Kept.cons (cellIs rfl) (Kept.cons (cellIs rfl) Kept.nil)) ?_
      refine Dr.run 13 rfl rfl (by kernel_rfl) (o_append rfl rfl infoRT rfl (by omega) rfl rfl (.tail (.tail (.head))) (news := rtC ((k, FK.atOf now a), sq + 1)) rfl (fun h => by cases h) (srcIs (fun j u h => by simpa [rtC] using h)) (by simp [rtC, Value.oneCell']) (by unfold maxLen; omega) (by omega) fun v' hv' => ?_)
      refine At.formRow .head ?_
      rintro A9 c9 rfl _ _ _ _ _
      refine Dr.kept [true, false] (by kernel_rfl) (Kept.cons (cellIs rfl) Kept.nil) ?_
      refine Dr.p 14 rfl rfl (by kernel_rfl) (ev_nil rfl) ?_
      refine Dr.p 15 rfl rfl (by kernel_rfl) (ev_field (off := 1) rfl rfl) ?_
      refine Dr.run 16 rfl rfl (by kernel_rfl) (o_store1 rfl rfl rfl rfl rfl (by first | decide | simp | (simp; omega)) ?_)
      refine Dr.kept [false] (by kernel_rfl) Kept.nil ?_
      refine Dr.done (by kernel_rfl) ?_
      refine At.then ?_
      refine At.seq ?_
      refine At.region ?_
      refine L.as rfl rfl ?_
      refine L.nil ?_
      refine At.then ?_
      refine At.ret ?_
      have e : row 117 3 (.slice A9 (rs.length + 1) c9) (rs.length + 1) (rtV rs ++ rtC ((k, FK.atOf now a), sq + 1)) = rtAt (.slice A9 (rs.length + 1) c9) (rs ++ [((k, FK.atOf now a), sq + 1)]) := by rw [rtAt, rtV_app, rtV_one, List.length_append]; rfl
      rw [e]
      exact At.ret1 [_] rfl rfl ⟨by rw [hR], rs ++ [((k, FK.atOf now a), sq + 1)], sq + 1, h.snoc hout (FK.atOf_le _ _) hne, Nat.le_refl _, by rw [hR]; simp, rfl⟩ ((Ent.cons (Ent.cons Ent.drop)).trans Ent.closeRw)
  -- unused hints: ['nojoin r3']
end Go.Proofs.YtagkobkmaigfcaaDoor
