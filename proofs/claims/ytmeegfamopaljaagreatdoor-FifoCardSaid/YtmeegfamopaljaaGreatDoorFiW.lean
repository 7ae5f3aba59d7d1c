/- slices.Grow from nothing, slices.Concat of two. -/
import Derived.Test.YtmeegfamopaljaaGreatDoorFiI
import Derived.Test.YtmeegfamopaljaaGreatDoorFiV
import Derived.Test.YtmeegfamopaljaaGreatDoorFiL
namespace Go.Proofs.YtmeegfamopaljaaGreatDoor
open Go Go.RowKit Go.SL
variable {G : Env → Prop}
set_option maxRecDepth 10000 in
theorem grow_does {k : Nat} (h0 : 0 < k) (hm : k ≤ 1099511627776) : Does Tryz.prog G 157 [.slice none 0 0, .int .i64 k].toArray [] fun v m => m = [bytesAt v []] := by
  refine Does.body Tryz.func157 rfl rfl fun E fr hE => ?_
  refine At.app0 ?_
  refine At.seq ?_
  refine At.region ?_
  refine L.as rfl rfl ?_
  refine L.nil ?_
  refine At.then ?_
  refine At.seq ?_
  refine At.seq ?_
  refine At.region ?_
  refine L.mv rfl rfl ?_
  refine L.pure rfl (ev_lss (r := false) rfl rfl (by simp)) ?_
  refine L.nil ?_
  refine At.then ?_
  refine At.condF rfl ?_
  refine At.skip ?_
  refine At.then ?_
  refine At.seq ?_
  refine At.seq ?_
  refine At.region ?_
  refine L.mv rfl rfl ?_
  refine L.mv rfl rfl ?_
  refine L.pure rfl (ev_capS rfl rfl) ?_
  refine L.mv rfl rfl ?_
  refine L.pure rfl (ev_lenS rfl rfl) ?_
  refine L.pure rfl (ev_sub (r := 0) rfl rfl (by decide)) ?_
  refine L.pure rfl (ev_sub (r := (k : Int)) rfl rfl (by rw [w64 (by omega)]; omega)) ?_
  refine L.as rfl rfl ?_
  refine L.nil ?_
  refine At.then ?_
  refine At.seq ?_
  refine At.region ?_
  refine L.mv rfl rfl ?_
  refine L.pure rfl (ev_gtr (r := true) rfl rfl (by simp; omega)) ?_
  refine L.nil ?_
  refine At.then ?_
  refine At.condT rfl ?_
  refine At.region ?_
  refine L.mv rfl rfl ?_
  refine L.mv rfl rfl ?_
  refine L.pure rfl (ev_capS rfl rfl) ?_
  refine L.pure rfl (evAs (v' := .slice none 0 0) (ev_slice (z := 1) (a := 0) (b := 0) rfl rfl rfl rfl ⟨_, rfl⟩ (Nat.le_refl _) (Nat.le_refl _)) rfl) ?_
  refine L.mv rfl rfl ?_
  refine L.op rfl (o_room rfl rfl rfl infoByte rfl rfl rfl h0 (by unfold maxLen; omega) (by omega) fun b22 cap22 hc22 => ?_)
  refine L.mv rfl rfl ?_
  refine L.pure rfl (ev_lenS rfl rfl) ?_
  refine L.pure rfl (evAs (v' := .slice (some ⟨b22, 0, none⟩) 0 cap22) (ev_slice (z := 1) (a := 0) (b := 0) rfl rfl rfl rfl ⟨_, rfl⟩ (Nat.le_refl _) (Nat.zero_le _)) (by simp only [Nat.sub_zero]; split <;> rfl)) ?_
  refine L.as rfl rfl ?_
  refine L.nil ?_
  refine At.then ?_
  refine At.seq ?_
  refine At.region ?_
  refine L.mv rfl rfl ?_
  refine L.as rfl rfl ?_
  refine L.nil ?_
  refine At.then ?_
  refine At.ret ?_
  exact At.ret1 [_] rfl rfl rfl (Ent.refl _)
def catPre (a b : List UInt8) (k : Nat) : List UInt8 := if k = 0 then [] else if k = 1 then a else a ++ b
set_option maxRecDepth 10000 in
set_option maxHeartbeats 1000000 in
theorem concat_does {g : Nat} {A1 A2 : Option Addr} {bs1 bs2 : List UInt8} {p1 p2 : HP} (c1 c2 : Nat) (hp1 : Reads p1 A1 bs1) (hA1 : A1 = none → bs1 = []) (hp2 : Reads p2 A2 bs2) (hA2 : A2 = none → bs2 = []) (h0 : 0 < bs1.length + bs2.length) (hl : bs1.length + bs2.length ≤ 1099511627776) :
    Does Tryz.prog G 96 [.slice (some ⟨g, 0, none⟩) 2 2].toArray [blk g 47 #[.slice A1 bs1.length c1, .slice A2 bs2.length c2], p1, p2] fun v m => m = [bytesAt v (bs1 ++ bs2), p1, p2] := by
  refine Does.body Tryz.func96 rfl rfl fun E fr hE => ?_
  refine At.app3 ?_
  refine At.seq ?_
  refine At.region ?_
  refine L.as rfl rfl ?_
  refine L.nil ?_
  refine At.then ?_
  refine At.seq ?_
  refine At.region ?_
  refine L.as rfl rfl ?_
  refine L.nil ?_
  refine At.then ?_
  refine At.seq ?_
  refine At.seq ?_
  refine At.region ?_
  refine L.mv rfl rfl ?_
  refine L.pure rfl (ev_lenS rfl rfl) ?_
  refine L.mv rfl rfl ?_
  refine L.nil ?_
  refine At.then ?_
  refine At.block ?_
  refine At.loop (X := Nat) (fun k => [(11, .int .i64 k), (10, .int .i64 (2 : Nat)), (9, .slice (some ⟨g, 0, none⟩) 2 2), (3, .int .i64 (catPre bs1 bs2 k).length), (0, .slice (some ⟨g, 0, none⟩) 2 2)]) (fun _ => blk g 47 #[.slice A1 bs1.length c1, .slice A2 bs2.length c2] :: p1 :: p2 :: fr) (fun k => k ≤ 2) (fun k => 2 - k) 0 (Nat.zero_le _) ⟨rfl, rfl, rfl, rfl, rfl, trivial⟩ (Ent.refl _) ?_
  intro k hk
  have hcl : (catPre bs1 bs2 k).length ≤ bs1.length + bs2.length := by unfold catPre; split; simp; split; omega; simp
  refine At.seq ?_
  refine At.region ?_
  refine L.pure rfl (ev_lss rfl rfl rfl) ?_
  refine L.nil ?_
  refine At.then ?_
  refine At.seq ?_
  refine At.condD rfl (fun c12 => ?_) (fun c12 => ?_)
  ·
    have hlt : k < 2 := by have : (k : Int) < ((2 : Nat) : Int) := c12; omega
    refine At.skip ?_
    refine At.then ?_
    refine At.seq ?_
    refine At.block ?_
    refine At.seq ?_
    by_cases HK : k = 0
    ·
      subst HK
      refine At.region ?_
      refine L.pure rfl (ev_ixN (z := 1) rfl rfl rfl rfl hlt) ?_
      refine L.ld rfl rfl rfl rfl ?_
      refine L.as rfl rfl ?_
      refine L.nil ?_
      refine At.then ?_
      refine At.seq ?_
      refine At.region ?_
      refine L.mv rfl rfl ?_
      refine L.mv rfl rfl ?_
      refine L.pure rfl (ev_lenS rfl rfl) ?_
      refine L.pure rfl (ev_add (r := ((catPre bs1 bs2 1).length : Int)) rfl rfl (by simp only [catPre]; simp; rw [w64 (by omega)])) ?_
      refine L.as rfl rfl ?_
      refine L.nil ?_
      refine At.then ?_
      refine At.seq ?_
      refine At.region ?_
      refine L.mv rfl rfl ?_
      refine L.pure rfl (ev_lss (r := false) rfl rfl (by simp)) ?_
      refine L.nil ?_
      refine At.then ?_
      refine At.condF rfl ?_
      refine At.skip ?_
      refine At.inBlock (At.then ?_)
      refine At.region ?_
      refine L.pure rfl (ev_add (r := ((1 : Nat) : Int)) rfl rfl (by decide)) ?_
      refine L.mv rfl rfl ?_
      refine L.nil ?_
      exact At.round 1 (by omega) (by omega) ⟨rfl, rfl, rfl, rfl, rfl, trivial⟩ (Ent.refl _)
    ·
      obtain rfl : k = 1 := by omega
      refine At.region ?_
      refine L.pure rfl (ev_ixN (z := 1) rfl rfl rfl rfl hlt) ?_
      refine L.ld rfl rfl rfl rfl ?_
      refine L.as rfl rfl ?_
      refine L.nil ?_
      refine At.then ?_
      refine At.seq ?_
      refine At.region ?_
      refine L.mv rfl rfl ?_
      refine L.mv rfl rfl ?_
      refine L.pure rfl (ev_lenS rfl rfl) ?_
      refine L.pure rfl (ev_add (r := ((catPre bs1 bs2 2).length : Int)) rfl rfl (by simp only [catPre]; simp; rw [w64 (by omega)])) ?_
      refine L.as rfl rfl ?_
      refine L.nil ?_
      refine At.then ?_
      refine At.seq ?_
      refine At.region ?_
      refine L.mv rfl rfl ?_
      refine L.pure rfl (ev_lss (r := false) rfl rfl (by simp)) ?_
      refine L.nil ?_
      refine At.then ?_
      refine At.condF rfl ?_
      refine At.skip ?_
      refine At.inBlock (At.then ?_)
      refine At.region ?_
      refine L.pure rfl (ev_add (r := ((2 : Nat) : Int)) rfl rfl (by decide)) ?_
      refine L.mv rfl rfl ?_
      refine L.nil ?_
      exact At.round 2 (by omega) (by omega) ⟨rfl, rfl, rfl, rfl, rfl, trivial⟩ (Ent.refl _)
  ·
    obtain rfl : k = 2 := by have : ¬ (k : Int) < ((2 : Nat) : Int) := c12; omega
    have h2 : catPre bs1 bs2 2 = bs1 ++ bs2 := rfl
    refine At.exit ?_
    refine At.thenExit (At.roundExit (At.inBlockHit (At.then ?_)))
    refine At.seq ?_
    refine At.region ?_
    refine L.mv rfl rfl ?_
    refine L.op rfl (o_call rfl rfl rfl hE (grow_does (k := (catPre bs1 bs2 2).length) (by rw [h2, List.length_append]; exact h0) (by omega)) (Ent.refl _) ?_)
    rintro v m rfl
    refine At.app1 ?_
    refine L.as rfl rfl ?_
    refine L.nil ?_
    refine At.then ?_
    refine At.seq ?_
    refine At.seq ?_
    refine At.region ?_
    refine L.mv rfl rfl ?_
    refine L.pure rfl (ev_lenS rfl rfl) ?_
    refine L.mv rfl rfl ?_
    refine L.nil ?_
    refine At.then ?_
    refine At.block ?_
    refine At.loop (X := Nat × Value) (fun x => [(27, .int .i64 x.1), (26, .int .i64 (2 : Nat)), (25, .slice (some ⟨g, 0, none⟩) 2 2), (6, x.2)]) (fun x => bytesAt x.2 (catPre bs1 bs2 x.1) :: blk g 47 #[.slice A1 bs1.length c1, .slice A2 bs2.length c2] :: p1 :: p2 :: fr) (fun x => x.1 ≤ 2) (fun x => 2 - x.1) (0, v) (Nat.zero_le _) ⟨rfl, rfl, rfl, rfl, trivial⟩ (Ent.refl _) ?_
    rintro ⟨k, u⟩ hk
    replace hk : k ≤ 2 := hk
    refine At.ent (l' := bytesAt u (catPre bs1 bs2 k) :: blk g 47 #[.slice A1 bs1.length c1, .slice A2 bs2.length c2] :: p1 :: p2 :: fr) (Ent.refl _) ?_
    refine At.seq ?_
    refine At.region ?_
    refine L.pure rfl (ev_lss rfl rfl rfl) ?_
    refine L.nil ?_
    refine At.then ?_
    refine At.seq ?_
    refine At.condD rfl (fun c28 => ?_) (fun c28 => ?_)
    ·
      have hlt : k < 2 := by have : (k : Int) < ((2 : Nat) : Int) := c28; omega
      refine At.skip ?_
      refine At.then ?_
      refine At.seq ?_
      refine At.block ?_
      refine At.seq ?_
      by_cases HM : k = 0
      ·
        subst HM
        refine At.region ?_
        refine L.pure rfl (ev_ixN (z := 1) rfl rfl rfl rfl hlt) ?_
        refine L.ld rfl rfl rfl rfl ?_
        refine L.as rfl rfl ?_
        refine L.nil ?_
        refine At.then ?_
        refine At.region ?_
        refine L.mv rfl rfl ?_
        refine L.mv rfl rfl ?_
        refine L.op rfl (o_append rfl rfl infoByte rfl (by omega) rfl rfl (HasVal.sel (v := u)) (news := bytesV bs1) (by rw [bytesV_length]; omega) (fun h => by rw [hA1 h]; rfl) (Reads.src hp1 (.tail (.tail .head))) (by intro u hu; obtain ⟨x, _, rfl⟩ := List.mem_map.1 hu; rfl) (by unfold maxLen; simp [catPre]; omega) (by simp [catPre]; omega) fun u2 hu2 => ?_)
        refine L.as rfl rfl ?_
        refine L.nil ?_
        refine At.inBlock (At.then ?_)
        refine At.region ?_
        refine L.pure rfl (ev_add (r := ((1 : Nat) : Int)) rfl rfl rfl) ?_
        refine L.mv rfl rfl ?_
        refine L.nil ?_
        refine At.round (1, u2) (by show 1 ≤ 2; omega) (by show 2 - 1 < 2 - 0; omega) ⟨rfl, rfl, rfl, rfl, trivial⟩ ?_
        show Ent (row 5 1 u2 (0 + bs1.length) ([] ++ bytesV bs1) :: _) (row 5 1 u2 bs1.length (bytesV bs1) :: _)
        rw [Nat.zero_add, List.nil_append]
        exact Ent.refl _
      ·
        obtain rfl : k = 1 := by omega
        refine At.region ?_
        refine L.pure rfl (ev_ixN (z := 1) rfl rfl rfl rfl hlt) ?_
        refine L.ld rfl rfl rfl rfl ?_
        refine L.as rfl rfl ?_
        refine L.nil ?_
        refine At.then ?_
        refine At.region ?_
        refine L.mv rfl rfl ?_
        refine L.mv rfl rfl ?_
        refine L.op rfl (o_append rfl rfl infoByte rfl (by omega) rfl rfl (HasVal.sel (v := u)) (news := bytesV bs2) (by rw [bytesV_length]; omega) (fun h => by rw [hA2 h]; rfl) (Reads.src hp2 (.tail (.tail (.tail .head)))) (by intro u hu; obtain ⟨x, _, rfl⟩ := List.mem_map.1 hu; rfl) (by unfold maxLen; simp [catPre]; omega) (by simp [catPre]; omega) fun u2 hu2 => ?_)
        refine L.as rfl rfl ?_
        refine L.nil ?_
        refine At.inBlock (At.then ?_)
        refine At.region ?_
        refine L.pure rfl (ev_add (r := ((2 : Nat) : Int)) rfl rfl rfl) ?_
        refine L.mv rfl rfl ?_
        refine L.nil ?_
        refine At.round (2, u2) (by show 2 ≤ 2; omega) (by show 2 - 2 < 2 - 1; omega) ⟨rfl, rfl, rfl, rfl, trivial⟩ ?_
        show Ent (row 5 1 u2 (bs1.length + bs2.length) (bytesV bs1 ++ bytesV bs2) :: _) (row 5 1 u2 (bs1 ++ bs2).length (bytesV (bs1 ++ bs2)) :: _)
        rw [List.length_append, bytesV_append]
        exact Ent.refl _
    ·
      obtain rfl : k = 2 := by have : ¬ (k : Int) < ((2 : Nat) : Int) := c28; omega
      refine At.exit ?_
      refine At.thenExit (At.roundExit (At.inBlockHit (At.then ?_)))
      refine At.seq ?_
      refine At.region ?_
      refine L.mv rfl rfl ?_
      refine L.as rfl rfl ?_
      refine L.nil ?_
      refine At.then ?_
      refine At.ret ?_
      exact At.ret1 [bytesAt u (bs1 ++ bs2), p1, p2] rfl rfl rfl (Ent.cons Ent.drop)
end Go.Proofs.YtmeegfamopaljaaGreatDoor

namespace Go.Proofs.YtmeegfamopaljaaGreatDoor
open Go Go.RowKit Go.SL
abbrev keepL (f e j d : Nat) (p : EA) (S : FK.En) (J : FK.Jn) (σ : FK.Dsk) : List HP := [fkB f e j, engX e p S, jrnlAt j d J, diskAt d σ]
set_option maxRecDepth 10000 in
theorem task1_does {f e j d : Nat} {p : EA} {S : FK.En} {J : FK.Jn} {σ : FK.Dsk} {op t : Nat} {Q : FK.En → Prop} (ht : S.tasks.any (·.1 == t) = true) (hC : Does Tryz.prog Good 104 [ptr f, .int .i64 op, natV t].toArray (keepL f e j d p S J σ) (CallPost f e j d p S J σ op t Q)) : Does Tryz.prog Good 102 [ptr f, .int .i64 op, natV t].toArray (keepL f e j d p S J σ) (CallPost f e j d p S J σ op t Q) := by
  refine Does.body Tryz.func102 rfl rfl fun E fr hE => ?_
  refine At.app4 ?_
  refine At.seq ?_
  refine At.region ?_
  refine L.as rfl rfl ?_
  refine L.nil ?_
  refine At.then ?_
  refine At.seq ?_
  refine At.seq ?_
  refine At.region ?_
  refine L.mv rfl rfl ?_
  refine L.nc rfl rfl ?_
  refine L.fa 0 rfl rfl rfl ?_
  refine L.ld rfl rfl rfl rfl ?_
  refine L.mv rfl rfl ?_
  refine L.op rfl (o_call rfl rfl rfl hE (works_does t) (Ent.sel (.tail .head)) ?_)
  rintro v m ⟨rfl, rfl⟩
  refine At.app1 ?_
  rw [ht]
  refine L.pure rfl (ev_not rfl rfl) ?_
  refine L.nil ?_
  refine At.then ?_
  refine At.condF rfl ?_
  refine At.skip ?_
  refine At.then ?_
  refine At.seq ?_
  refine At.region ?_
  refine L.mv rfl rfl ?_
  refine L.mv rfl rfl ?_
  refine L.mv rfl rfl ?_
  refine L.op rfl (o_call rfl rfl rfl hE hC (Ent.sel (.tail .head)) ?_)
  rintro v m hv
  refine L.as rfl rfl ?_
  refine L.nil ?_
  refine At.then ?_
  refine At.ret ?_
  exact At.ret1 m rfl rfl hv (Ent.refl _)
theorem any_find {S : FK.En} {t : Nat} {P : FK.Pl} (h : (S.tasks.find? (·.1 == t)).map (·.2) = some P) : S.tasks.any (·.1 == t) = true := by
  cases hf : S.tasks.find? (·.1 == t) with
  | none => rw [hf] at h; cases h
  | some x => exact List.any_eq_true.2 ⟨x, List.mem_of_find?_eq_some hf, List.find?_some (p := fun x : Nat × FK.Pl => x.1 == t) hf⟩
set_option maxRecDepth 10000 in
theorem fcomplete1_does {f e j d : Nat} {p : EA} {S : FK.En} {J : FK.Jn} {σ : FK.Dsk} {t : Nat} {P : FK.Pl} (h : FK.Ok S) (hn : t < 18446744073709551616) (hJ : J.n < 100) (hr : Roomy σ) (ht : (S.tasks.find? (·.1 == t)).map (·.2) = some P) (hends : S.ends < 9223372036854775807) : Does Tryz.prog Good 56 [ptr f, natV t].toArray (keepL f e j d p S J σ) (CallPost f e j d p S J σ 4 t fun U => U = S.complete t) := by
  refine Does.body Tryz.func56 rfl rfl fun E fr hE => ?_
  refine At.app4 ?_
  refine At.seq ?_
  refine At.region ?_
  refine L.as rfl rfl ?_
  refine L.nil ?_
  refine At.then ?_
  refine At.seq ?_
  refine At.region ?_
  refine L.mv rfl rfl ?_
  refine L.mv rfl rfl ?_
  refine L.op rfl (o_call rfl rfl rfl hE (task1_does (op := 4) (Q := fun U => U = S.complete t) (any_find ht) (call_does (op := 4) (by omega) hn hJ hr (do4_does ((complete_ok h ht hends).mono fun v m hv => ⟨m, ⟨hv.1, _, rfl, hv.2⟩, Ent.refl _⟩)))) (Ent.refl _) ?_)
  rintro v m hv
  refine L.as rfl rfl ?_
  refine L.nil ?_
  refine At.then ?_
  refine At.ret ?_
  exact At.ret1 m rfl rfl hv (Ent.refl _)
set_option maxRecDepth 10000 in
theorem ffail1_does {f e j d : Nat} {p : EA} {S : FK.En} {J : FK.Jn} {σ : FK.Dsk} {t : Nat} {P : FK.Pl} (h : FK.Ok S) (hn : t < 18446744073709551616) (hJ : J.n < 100) (hr : Roomy σ) (ht : (S.tasks.find? (·.1 == t)).map (·.2) = some P) (hsets : S.sets + 1 < 9223372036854775807) (hends : S.ends < 9223372036854775807) : Does Tryz.prog Good 57 [ptr f, natV t].toArray (keepL f e j d p S J σ) (CallPost f e j d p S J σ 5 t fun U => U = S.fail t) := by
  refine Does.body Tryz.func57 rfl rfl fun E fr hE => ?_
  refine At.app4 ?_
  refine At.seq ?_
  refine At.region ?_
  refine L.as rfl rfl ?_
  refine L.nil ?_
  refine At.then ?_
  refine At.seq ?_
  refine At.region ?_
  refine L.mv rfl rfl ?_
  refine L.mv rfl rfl ?_
  refine L.op rfl (o_call rfl rfl rfl hE (task1_does (op := 5) (Q := fun U => U = S.fail t) (any_find ht) (call_does (op := 5) (by omega) hn hJ hr (do5_does ((fail_ok h ht hsets hends).mono fun v m hv => ⟨m, ⟨hv.1, _, rfl, hv.2⟩, Ent.refl _⟩)))) (Ent.refl _) ?_)
  rintro v m hv
  refine L.as rfl rfl ?_
  refine L.nil ?_
  refine At.then ?_
  refine At.ret ?_
  exact At.ret1 m rfl rfl hv (Ent.refl _)
set_option maxRecDepth 10000 in
theorem ftick_does {f e j d : Nat} {p : EA} {S : FK.En} {J : FK.Jn} {σ : FK.Dsk} {n : Nat} (h : FK.Ok S) (hn : n < 18446744073709551616) (hJ : J.n < 100) (hr : Roomy σ) (hsets : S.sets ≤ 4611686018427387904) (hends : S.ends ≤ 4611686018427387904) : Does Tryz.prog Good 59 [ptr f, natV n].toArray (keepL f e j d p S J σ) (CallPost f e j d p S J σ 7 n fun U => FK.Ticks (S.later n) S U) := by
  refine Does.body Tryz.func59 rfl rfl fun E fr hE => ?_
  refine At.app4 ?_
  refine At.seq ?_
  refine At.region ?_
  refine L.as rfl rfl ?_
  refine L.nil ?_
  refine At.then ?_
  refine At.seq ?_
  refine At.region ?_
  refine L.mv rfl rfl ?_
  refine L.mv rfl rfl ?_
  refine L.op rfl (o_call rfl rfl rfl hE (call_does (op := 7) (by omega) hn hJ hr (do7_does (tick_ok h hn hsets hends))) (Ent.refl _) ?_)
  rintro v m hv
  refine L.as rfl rfl ?_
  refine L.nil ?_
  refine At.then ?_
  refine At.ret ?_
  exact At.ret1 m rfl rfl hv (Ent.refl _)
set_option maxRecDepth 10000 in
theorem fpoll0_does {f e j d : Nat} {p : EA} {S : FK.En} {J : FK.Jn} {σ : FK.Dsk} (hq : S.queue = []) : Does Tryz.prog Good 53 [ptr f].toArray (keepL f e j d p S J σ) fun v m => v = .tuple #[taskV 0 0 0 0, .bool false, .nilIface] ∧ m = keepL f e j d p S J σ := by
  refine Does.body Tryz.func53 rfl rfl fun E fr hE => ?_
  refine At.app4 ?_
  refine At.seq ?_
  refine At.region ?_
  refine L.op rfl (o_alloc (z := .agg #[.int .u64 0, .int .i64 0, .int .i64 0, .int .u64 0]) rfl rfl fun b2 => ?_)
  refine L.as rfl rfl ?_
  refine L.as rfl rfl ?_
  refine L.nil ?_
  refine At.then ?_
  refine At.seq ?_
  refine At.seq ?_
  refine At.region ?_
  refine L.mv rfl rfl ?_
  refine L.nc rfl rfl ?_
  refine L.fa 0 rfl rfl rfl ?_
  refine L.ld rfl rfl rfl rfl ?_
  refine L.op rfl (o_call rfl rfl rfl hE any_does (Ent.sel (.tail (.tail .head))) ?_)
  rintro v m ⟨rfl, rfl⟩
  refine At.app1 ?_
  rw [show decide (0 < S.queue.length) = false by rw [hq]; rfl]
  refine L.pure rfl (ev_not rfl rfl) ?_
  refine L.nil ?_
  refine At.then ?_
  refine At.condT rfl ?_
  refine At.seq ?_
  refine At.region ?_
  refine L.pure rfl (ev_build (ps := []) (vs := []) (cs := (taskL 0 0 0 0).toArray) rfl rfl rfl rfl rfl) ?_
  refine L.op rfl (o_storeN rfl (m := 4) (vs := taskL 0 0 0 0) rfl rfl rfl rfl (by simp [Value.oneCell']) (by show 0 + 4 ≤ 4; omega) ?_)
  refine At.blkAs b2 (taskL 0 0 0 0).toArray rfl ?_
  refine L.as rfl rfl ?_
  refine L.as rfl rfl ?_
  refine L.nil ?_
  refine At.then ?_
  refine At.ret ?_
  refine At.thenRet ?_
  exact At.res3 (keepL f e j d p S J σ) rfl (Res.cellN (vs := taskL 0 0 0 0) rfl rfl rfl rfl (rowAll rfl)) (Res.tmp rfl) (Res.tmp rfl) ⟨rfl, rfl⟩ (Ent.drop.trans (Ent.sel (.tail .head)))
def PollPost (f e j d : Nat) (p : EA) (S : FK.En) (J : FK.Jn) (σ : FK.Dsk) (id k : Nat) (q : List FK.Pl) (R : FK.Rn) (s : FK.Sp) (nd : FK.Node) (v : Value) (m : List HP) : Prop :=
  ((J.add σ (txt (FK.frame (FK.entryB 2 0)))).2.2 = 0 ∧ v = .tuple #[taskV id k (s.tries + 1) (S.lastToken + 1), .bool true, .nilIface] ∧ m = keepL f e j d p (S.hand ⟨id, (k : Int), 0⟩ q R s nd) (J.add σ (txt (FK.frame (FK.entryB 2 0)))).1 (J.add σ (txt (FK.frame (FK.entryB 2 0)))).2.1) ∨
  ((J.add σ (txt (FK.frame (FK.entryB 2 0)))).2.2 ≠ 0 ∧ v = .tuple #[taskV 0 0 0 0, .bool false, errV (J.add σ (txt (FK.frame (FK.entryB 2 0)))).2.2] ∧ m = keepL f e j d p S (J.add σ (txt (FK.frame (FK.entryB 2 0)))).1 (J.add σ (txt (FK.frame (FK.entryB 2 0)))).2.1)
set_option maxRecDepth 10000 in
set_option maxHeartbeats 1000000 in
theorem fpoll1_does {f e j d : Nat} {p : EA} {S : FK.En} {J : FK.Jn} {σ : FK.Dsk} (h : FK.Ok S) (hJ : J.n < 100) (hr : Roomy σ) {id k : Nat} {q : List FK.Pl} {R : FK.Rn} {s : FK.Sp} {nd : FK.Node} (hq : S.queue = ⟨id, (k : Int), 0⟩ :: q) (hR : S.getR id = some R) (hs : R.steps[k]? = some s) (hn : R.fl.nodes[k]? = some nd) (hsets : S.sets + 1 < 9223372036854775807) (htok : S.lastToken < 9223372036854775807) : Does Tryz.prog Good 53 [ptr f].toArray (keepL f e j d p S J σ) (PollPost f e j d p S J σ id k q R s nd) := by
  refine Does.body Tryz.func53 rfl rfl fun E fr hE => ?_
  refine At.app4 ?_
  refine At.seq ?_
  refine At.region ?_
  refine L.op rfl (o_alloc (z := .agg #[.int .u64 0, .int .i64 0, .int .i64 0, .int .u64 0]) rfl rfl fun b2 => ?_)
  refine L.as rfl rfl ?_
  refine L.as rfl rfl ?_
  refine L.nil ?_
  refine At.then ?_
  refine At.seq ?_
  refine At.seq ?_
  refine At.region ?_
  refine L.mv rfl rfl ?_
  refine L.nc rfl rfl ?_
  refine L.fa 0 rfl rfl rfl ?_
  refine L.ld rfl rfl rfl rfl ?_
  refine L.op rfl (o_call rfl rfl rfl hE any_does (Ent.sel (.tail (.tail .head))) ?_)
  rintro v m ⟨rfl, rfl⟩
  refine At.app1 ?_
  rw [show decide (0 < S.queue.length) = true by rw [hq]; rfl]
  refine L.pure rfl (ev_not rfl rfl) ?_
  refine L.nil ?_
  refine At.then ?_
  refine At.condF rfl ?_
  refine At.skip ?_
  refine At.then ?_
  refine At.seq ?_
  refine At.seq ?_
  refine At.region ?_
  refine L.mv rfl rfl ?_
  refine L.op rfl (o_call rfl rfl rfl hE (note_does (e := e) (j := j) (op := 2) (n := 0) (by omega) (by omega) hJ hr) (Ent.sel3 (.tail (.tail .head)) (.tail (.tail .head)) (.tail (.tail .head))) ?_)
  rintro v m ⟨hv, rfl⟩
  refine At.app3 ?_
  generalize hω : J.add σ (txt (FK.frame (FK.entryB 2 0))) = ω at hv ⊢
  refine L.as rfl rfl ?_
  refine L.nil ?_
  refine At.then ?_
  refine At.seq ?_
  by_cases HE : ω.2.2 = 0
  ·
    replace hv := hv.trans (if_pos HE)
    subst hv
    refine At.region ?_
    refine L.mv rfl rfl ?_
    refine L.pure rfl (ev_neqNil0 rfl rfl) ?_
    refine L.nil ?_
    refine At.then ?_
    refine At.condF rfl ?_
    refine At.skip ?_
    refine At.then ?_
    refine At.seq ?_
    refine At.region ?_
    refine L.mv rfl rfl ?_
    refine L.nc rfl rfl ?_
    refine L.fa 0 rfl rfl rfl ?_
    refine L.ld rfl rfl rfl rfl ?_
    refine L.op rfl (o_call rfl rfl rfl hE (poll_ok h hq hR hs hn hsets htok) (Ent.sel (.tail (.tail (.tail .head)))) ?_)
    rintro v m ⟨rfl, rfl⟩
    refine At.app1 ?_
    refine L.mv rfl rfl ?_
    refine L.ex rfl rfl rfl ?_
    refine L.ex rfl rfl rfl ?_
    refine L.op rfl (o_alloc (z := .agg #[.int .u64 0, .int .i64 0, .int .i64 0, .int .u64 0]) rfl rfl fun b6 => ?_)
    refine L.op rfl (o_storeN rfl (m := 4) (vs := taskL id k (s.tries + 1) (S.lastToken + 1)) rfl rfl rfl rfl (by simp [Value.oneCell']) (by show 0 + 4 ≤ 4; omega) ?_)
    refine At.blkAs b6 (taskL id k (s.tries + 1) (S.lastToken + 1)).toArray rfl ?_
    refine L.as rfl rfl ?_
    refine L.nil ?_
    refine At.then ?_
    refine At.seq ?_
    refine At.region ?_
    refine L.val rfl (ev_loadN (vs := taskL id k (s.tries + 1) (S.lastToken + 1)) rfl rfl rfl rfl) (rowAll rfl) ?_
    refine L.mv rfl rfl ?_
    refine L.op rfl (o_storeN rfl (m := 4) (vs := taskL id k (s.tries + 1) (S.lastToken + 1)) rfl rfl rfl rfl (by simp [Value.oneCell']) (by show 0 + 4 ≤ 4; omega) ?_)
    refine At.blkAs b2 (taskL id k (s.tries + 1) (S.lastToken + 1)).toArray rfl ?_
    refine L.as rfl rfl ?_
    refine L.as rfl rfl ?_
    refine L.nil ?_
    refine At.then ?_
    refine At.ret ?_
    refine At.res3 (keepL f e j d p (S.hand ⟨id, (k : Int), 0⟩ q R s nd) ω.1 ω.2.1) rfl (Res.cellN (vs := taskL id k (s.tries + 1) (S.lastToken + 1)) rfl rfl rfl rfl (rowAll rfl)) (Res.tmp rfl) (Res.tmp rfl) (by unfold PollPost; rw [hω]; exact .inl ⟨HE, rfl, rfl⟩) ?_
    show Ent _ (fkB f e j :: engX e p _ :: jrnlAt j d ω.1 :: diskAt d ω.2.1 :: fr)
    exact Ent.auto
  ·
    replace hv := hv.trans (if_neg HE)
    subst hv
    refine At.region ?_
    refine L.mv rfl rfl ?_
    refine L.pure rfl (ev_neqNil rfl rfl) ?_
    refine L.nil ?_
    refine At.then ?_
    refine At.condT rfl ?_
    refine At.seq ?_
    refine At.region ?_
    refine L.pure rfl (ev_build (ps := []) (vs := []) (cs := (taskL 0 0 0 0).toArray) rfl rfl rfl rfl rfl) ?_
    refine L.mv rfl rfl ?_
    refine L.op rfl (o_storeN rfl (m := 4) (vs := taskL 0 0 0 0) rfl rfl rfl rfl (by simp [Value.oneCell']) (by show 0 + 4 ≤ 4; omega) ?_)
    refine At.blkAs b2 (taskL 0 0 0 0).toArray rfl ?_
    refine L.as rfl rfl ?_
    refine L.as rfl rfl ?_
    refine L.nil ?_
    refine At.then ?_
    refine At.ret ?_
    refine At.thenRet ?_
    refine At.res3 (keepL f e j d p S ω.1 ω.2.1) rfl (Res.cellN (vs := taskL 0 0 0 0) rfl rfl rfl rfl (rowAll rfl)) (Res.tmp rfl) (Res.tmp rfl) (by unfold PollPost; rw [hω]; exact .inr ⟨HE, by unfold errV; rw [if_neg HE], rfl⟩) ?_
    show Ent _ (fkB f e j :: engX e p _ :: jrnlAt j d ω.1 :: diskAt d ω.2.1 :: fr)
    exact Ent.auto
set_option maxRecDepth 10000 in
theorem fqueue_does {f e j d : Nat} {p : EA} {S : FK.En} {J : FK.Jn} {σ : FK.Dsk} (h : FK.Ok S) : Does Tryz.prog Good 52 [ptr f].toArray (keepL f e j d p S J σ) fun v m => m = row 55 4 v S.queue.length (qV S S.queue) :: keepL f e j d p S J σ := by
  refine Does.body Tryz.func52 rfl rfl fun E fr hE => ?_
  refine At.app4 ?_
  refine At.seq ?_
  refine At.region ?_
  refine L.as rfl rfl ?_
  refine L.nil ?_
  refine At.then ?_
  refine At.seq ?_
  refine At.region ?_
  refine L.mv rfl rfl ?_
  refine L.nc rfl rfl ?_
  refine L.fa 0 rfl rfl rfl ?_
  refine L.ld rfl rfl rfl rfl ?_
  refine L.op rfl (o_call rfl rfl rfl hE (queue_ok h) (Ent.sel (.tail .head)) ?_)
  rintro v m rfl
  refine At.app2 ?_
  refine L.as rfl rfl ?_
  refine L.nil ?_
  refine At.then ?_
  refine At.ret ?_
  refine At.ret1 (row 55 4 v S.queue.length (qV S S.queue) :: keepL f e j d p S J σ) rfl rfl rfl ?_
  show Ent _ (_ :: fkB f e j :: engX e p _ :: jrnlAt j d J :: diskAt d σ :: fr)
  exact Ent.auto
set_option maxRecDepth 10000 in
theorem fquery1_does {f e j d : Nat} {p : EA} {S : FK.En} {J : FK.Jn} {σ : FK.Dsk} {id : Nat} {R : FK.Rn} (h : FK.Ok S) (hR : S.getR id = some R) : Does Tryz.prog Good 61 [ptr f, natV id].toArray (keepL f e j d p S J σ) fun v m => ∃ A2 c2 A3 c3, v = .tuple #[.agg (infoL id R.state (.slice A2 R.steps.length c2) (.slice A3 R.steps.length c3)).toArray, .nilIface] ∧ m = intsAt (.slice A2 R.steps.length c2) (R.steps.map (·.state)) :: intsAt (.slice A3 R.steps.length c3) (R.steps.map (·.tries)) :: keepL f e j d p S J σ := by
  have hlm : ∀ g : FK.Sp → Int, (R.steps.map g).length = R.steps.length := fun g => List.length_map _
  refine Does.body Tryz.func61 rfl rfl fun E fr hE => ?_
  refine At.app4 ?_
  refine At.seq ?_
  refine At.region ?_
  refine L.op rfl (o_alloc (z := .agg #[.int .u64 0, .int .i64 0, .slice none 0 0, .slice none 0 0]) rfl rfl fun b4 => ?_)
  refine L.as rfl rfl ?_
  refine L.nil ?_
  refine At.then ?_
  refine At.seq ?_
  refine At.region ?_
  refine L.mv rfl rfl ?_
  refine L.nc rfl rfl ?_
  refine L.fa 0 rfl rfl rfl ?_
  refine L.ld rfl rfl rfl rfl ?_
  refine L.mv rfl rfl ?_
  refine L.op rfl (o_call rfl rfl rfl hE (query_ok h hR) (Ent.sel (.tail (.tail .head))) ?_)
  rintro v m ⟨v2, v3, rfl, rfl⟩
  refine At.app3 ?_
  refine At.formRow (HasVal.sel (v := v2)) ?_
  rintro A2 c2 hv2 - - - - -
  refine At.formRow (HasVal.sel (v := v3)) ?_
  rintro A3 c3 hv3 - - - - -
  rw [hlm] at hv2 hv3
  subst hv2; subst hv3
  refine L.mv rfl rfl ?_
  refine L.ex rfl rfl rfl ?_
  refine L.ex rfl rfl rfl ?_
  refine L.op rfl (o_alloc (z := .agg #[.int .u64 0, .int .i64 0, .slice none 0 0, .slice none 0 0]) rfl rfl fun b6 => ?_)
  refine L.op rfl (o_storeN rfl (m := 4) (vs := infoL id R.state (.slice A2 R.steps.length c2) (.slice A3 R.steps.length c3)) rfl rfl rfl rfl (by simp [Value.oneCell']) (by show 0 + 4 ≤ 4; omega) ?_)
  refine At.blkAs b6 (infoL id R.state (.slice A2 R.steps.length c2) (.slice A3 R.steps.length c3)).toArray rfl ?_
  refine L.as rfl rfl ?_
  refine L.nil ?_
  refine At.then ?_
  refine At.seq ?_
  refine At.seq ?_
  refine At.region ?_
  refine L.mv rfl rfl ?_
  refine L.pure rfl (ev_not rfl rfl) ?_
  refine L.nil ?_
  refine At.then ?_
  refine At.condF rfl ?_
  refine At.skip ?_
  refine At.then ?_
  refine At.seq ?_
  refine At.region ?_
  refine L.val rfl (ev_loadN (vs := infoL id R.state (.slice A2 R.steps.length c2) (.slice A3 R.steps.length c3)) rfl rfl rfl rfl) (rowAll rfl) ?_
  refine L.op rfl (o_storeN rfl (m := 4) (vs := infoL id R.state (.slice A2 R.steps.length c2) (.slice A3 R.steps.length c3)) rfl rfl rfl rfl (by simp [Value.oneCell']) (by show 0 + 4 ≤ 4; omega) ?_)
  refine At.blkAs b4 (infoL id R.state (.slice A2 R.steps.length c2) (.slice A3 R.steps.length c3)).toArray rfl ?_
  refine L.as rfl rfl ?_
  refine L.nil ?_
  refine At.then ?_
  refine At.ret ?_
  refine At.res2 (intsAt (.slice A2 R.steps.length c2) (R.steps.map (·.state)) :: intsAt (.slice A3 R.steps.length c3) (R.steps.map (·.tries)) :: keepL f e j d p S J σ) rfl (Res.cellN (vs := infoL id R.state (.slice A2 R.steps.length c2) (.slice A3 R.steps.length c3)) rfl rfl rfl rfl (rowAll rfl)) (Res.tmp rfl) ⟨A2, c2, A3, c3, rfl, rfl⟩ ?_
  show Ent _ (intsAt _ _ :: intsAt _ _ :: fkB f e j :: engX e p _ :: jrnlAt j d J :: diskAt d σ :: fr)
  exact Ent.auto
end Go.Proofs.YtmeegfamopaljaaGreatDoor

namespace Go.Proofs.YtmeegfamopaljaaGreatDoor
open Go Go.RowKit Go.SL Go.Extern
set_option maxRecDepth 10000
set_option maxHeartbeats 4000000
theorem asF_hit (e : Addr) (t bv : Nat) (o : Value) : Does Tryz.prog Good 147 [.iface 159 (.pointer (some e)), .iface 161 (.pointer (some ⟨t, 0, none⟩)), rv 161 bv 150, rt 159].toArray [blk bv 161 #[.pointer (some ⟨t, 0, none⟩)], blk t 159 #[o]] fun v m => v = .bool true ∧ m = [blk t 159 #[.pointer (some e)]] := by
  refine Does.body Tryz.func147 rfl rfl fun E fr hE => ?_
  refine At.app2 ?_
  refine At.seq ?_
  refine At.region ?_
  refine L.op rfl (o_box rfl rfl fun b6 => ?_)
  refine L.as rfl rfl ?_
  refine L.nil ?_
  refine At.then ?_
  refine At.block ?_
  refine At.loop (X := Unit) (fun _ => [(0, .iface 159 (.pointer (some e))), (1, .iface 161 (.pointer (some ⟨t, 0, none⟩))), (3, rt 159), (6, .pointer (some ⟨b6, 0, none⟩))]) (fun _ => blk b6 226 #[hnd 161, .pointer (some ⟨bv, 0, none⟩), .int .u64 150] :: blk bv 161 #[.pointer (some ⟨t, 0, none⟩)] :: blk t 159 #[o] :: fr) (fun _ => True) (fun _ => 0) () trivial ⟨rfl, rfl, rfl, rfl, trivial⟩ (Ent.refl _) ?_
  rintro _ _
  refine At.block ?_
  refine At.seq ?_
  refine At.seq ?_
  refine At.region ?_
  refine L.mv rfl rfl ?_
  refine L.pure rfl (ev_ext rfl fun w _ => typeOfF _ w) ?_
  refine L.mv rfl rfl ?_
  refine L.pure rfl (ev_mext rfl rfl (mAssignableTo _) fun w _ => assignableF w) ?_
  refine L.nil ?_
  refine At.then ?_
  refine At.condT rfl ?_
  refine At.seq ?_
  refine At.region ?_
  refine L.val rfl (ev_loadN (vs := [hnd 161, .pointer (some ⟨bv, 0, none⟩), .int .u64 150]) rfl rfl rfl rfl) (rowAll rfl) ?_
  refine L.val rfl (ev_ext (args := [rv 161 bv 150]) rfl fun w h => elemVF bv t w h) (cellIs rfl) ?_
  refine L.mv rfl rfl ?_
  refine L.op rfl (o_ext (v := fun b => rv 159 b 150) rfl rfl (fun w => valueOfF e w) fun b23 => ?_)
  refine L.op rfl (o_extSet1 (args := [rv 159 t 406, rv 159 b23 150]) rfl (b := t) (j := 0) (tb := 159) (cs := #[o]) (u := .tuple #[]) (v := .pointer (some e)) (φ := CellIs ⟨b23, 0, none⟩ (.pointer (some e))) rfl (cellIs (b := b23) rfl) (fun w h1 h2 => setF t b23 e o w h1 h2) ?_)
  refine L.nil ?_
  refine At.then ?_
  refine At.seq ?_
  refine At.region ?_
  refine L.as rfl rfl ?_
  refine L.nil ?_
  refine At.then ?_
  refine At.ret ?_
  refine At.thenRet (At.inBlockRet (At.roundRet (At.inBlockRet ?_)))
  exact At.ret1 [blk t 159 #[.pointer (some e)]] rfl rfl ⟨rfl, rfl⟩ (Ent.cons (Ent.drop.trans (Ent.drop.trans Ent.drop)))
theorem asN_hit (e : Int) (t bv : Nat) (o : Value) : Does Tryz.prog Good 147 [.iface 48 (.int .i64 e), .iface 165 (.pointer (some ⟨t, 0, none⟩)), rv 165 bv 150, rt 48].toArray [blk bv 165 #[.pointer (some ⟨t, 0, none⟩)], blk t 48 #[o]] fun v m => v = .bool true ∧ m = [blk t 48 #[.int .i64 e]] := by
  refine Does.body Tryz.func147 rfl rfl fun E fr hE => ?_
  refine At.app2 ?_
  refine At.seq ?_
  refine At.region ?_
  refine L.op rfl (o_box rfl rfl fun b6 => ?_)
  refine L.as rfl rfl ?_
  refine L.nil ?_
  refine At.then ?_
  refine At.block ?_
  refine At.loop (X := Unit) (fun _ => [(0, .iface 48 (.int .i64 e)), (1, .iface 165 (.pointer (some ⟨t, 0, none⟩))), (3, rt 48), (6, .pointer (some ⟨b6, 0, none⟩))]) (fun _ => blk b6 226 #[hnd 165, .pointer (some ⟨bv, 0, none⟩), .int .u64 150] :: blk bv 165 #[.pointer (some ⟨t, 0, none⟩)] :: blk t 48 #[o] :: fr) (fun _ => True) (fun _ => 0) () trivial ⟨rfl, rfl, rfl, rfl, trivial⟩ (Ent.refl _) ?_
  rintro _ _
  refine At.block ?_
  refine At.seq ?_
  refine At.seq ?_
  refine At.region ?_
  refine L.mv rfl rfl ?_
  refine L.pure rfl (ev_ext rfl fun w _ => typeOfN _ w) ?_
  refine L.mv rfl rfl ?_
  refine L.pure rfl (ev_mext rfl rfl (mAssignableTo _) fun w _ => assignableN w) ?_
  refine L.nil ?_
  refine At.then ?_
  refine At.condT rfl ?_
  refine At.seq ?_
  refine At.region ?_
  refine L.val rfl (ev_loadN (vs := [hnd 165, .pointer (some ⟨bv, 0, none⟩), .int .u64 150]) rfl rfl rfl rfl) (rowAll rfl) ?_
  refine L.val rfl (ev_ext (args := [rv 165 bv 150]) rfl fun w h => elemVN bv t w h) (cellIs rfl) ?_
  refine L.mv rfl rfl ?_
  refine L.op rfl (o_ext (v := fun b => rv 48 b 130) rfl rfl (fun w => valueOfN e w) fun b23 => ?_)
  refine L.op rfl (o_extSet1 (args := [rv 48 t 386, rv 48 b23 130]) rfl (b := t) (j := 0) (tb := 48) (cs := #[o]) (u := .tuple #[]) (v := .int .i64 e) (φ := CellIs ⟨b23, 0, none⟩ (.int .i64 e)) rfl (cellIs (b := b23) rfl) (fun w h1 h2 => setN t b23 e o w h1 h2) ?_)
  refine L.nil ?_
  refine At.then ?_
  refine At.seq ?_
  refine At.region ?_
  refine L.as rfl rfl ?_
  refine L.nil ?_
  refine At.then ?_
  refine At.ret ?_
  refine At.thenRet (At.inBlockRet (At.roundRet (At.inBlockRet ?_)))
  exact At.ret1 [blk t 48 #[.int .i64 e]] rfl rfl ⟨rfl, rfl⟩ (Ent.cons (Ent.drop.trans (Ent.drop.trans Ent.drop)))
theorem asNF_miss (x : Int) (t bv : Nat) (o : Value) : Does Tryz.prog Good 147 [.iface 48 (.int .i64 x), .iface 161 (.pointer (some ⟨t, 0, none⟩)), rv 161 bv 150, rt 159].toArray [blk bv 161 #[.pointer (some ⟨t, 0, none⟩)], blk t 159 #[o]] fun v m => v = .bool false ∧ m = [blk t 159 #[o]] := by
  refine Does.body Tryz.func147 rfl rfl fun E fr hE => ?_
  refine At.app2 ?_
  refine At.seq ?_
  refine At.region ?_
  refine L.op rfl (o_box rfl rfl fun b6 => ?_)
  refine L.as rfl rfl ?_
  refine L.nil ?_
  refine At.then ?_
  refine At.block ?_
  refine At.loop (X := Unit) (fun _ => [(0, .iface 48 (.int .i64 x)), (1, .iface 161 (.pointer (some ⟨t, 0, none⟩))), (3, rt 159), (6, .pointer (some ⟨b6, 0, none⟩))]) (fun _ => blk b6 226 #[hnd 161, .pointer (some ⟨bv, 0, none⟩), .int .u64 150] :: blk bv 161 #[.pointer (some ⟨t, 0, none⟩)] :: blk t 159 #[o] :: fr) (fun _ => True) (fun _ => 0) () trivial ⟨rfl, rfl, rfl, rfl, trivial⟩ (Ent.refl _) ?_
  rintro _ _
  refine At.block ?_
  refine At.seq ?_
  refine At.seq ?_
  refine At.region ?_
  refine L.mv rfl rfl ?_
  refine L.pure rfl (ev_ext rfl fun w _ => typeOfN _ w) ?_
  refine L.mv rfl rfl ?_
  refine L.pure rfl (ev_mext rfl rfl (mAssignableTo _) fun w _ => assignableNF w) ?_
  refine L.nil ?_
  refine At.then ?_
  refine At.condF rfl ?_
  refine At.skip ?_
  refine At.then ?_
  refine At.seq ?_
  refine At.seq ?_
  refine At.region ?_
  refine L.mv rfl rfl ?_
  refine L.pure rfl (ev_asINot (z := .nilIface) rfl rfl (by kernel_rfl) (by kernel_rfl)) ?_
  refine L.mv rfl rfl ?_
  refine L.ex rfl rfl rfl ?_
  refine L.ex rfl rfl rfl ?_
  refine L.as rfl rfl ?_
  refine L.as rfl rfl ?_
  refine L.nil ?_
  refine At.then ?_
  refine At.seq ?_
  refine At.region ?_
  refine L.mv rfl rfl ?_
  refine L.mv rfl rfl ?_
  refine L.off rfl rfl rfl rfl rfl rfl ?_
  refine L.off rfl rfl rfl rfl rfl rfl ?_
  refine L.off rfl rfl rfl rfl rfl rfl ?_
  refine L.pure rfl (ev_pick rfl rfl rfl) ?_
  refine L.nil ?_
  refine At.then ?_
  refine At.condF rfl ?_
  refine At.skip ?_
  refine At.then ?_
  refine At.seq ?_
  refine At.region ?_
  refine L.mv rfl rfl ?_
  refine L.nil ?_
  refine At.then ?_
  refine At.block ?_
  refine At.seq ?_
  refine At.region ?_
  refine L.pure rfl (ev_asINot (z := .nilIface) rfl rfl (by kernel_rfl) (by kernel_rfl)) ?_
  refine L.ex rfl rfl rfl ?_
  refine L.ex rfl rfl rfl ?_
  refine L.nil ?_
  refine At.then ?_
  refine At.condF rfl ?_
  refine At.seq ?_
  refine At.region ?_
  refine L.pure rfl (ev_asINot (z := .nilIface) rfl rfl (by kernel_rfl) (by kernel_rfl)) ?_
  refine L.ex rfl rfl rfl ?_
  refine L.ex rfl rfl rfl ?_
  refine L.nil ?_
  refine At.then ?_
  refine At.condF rfl ?_
  refine At.seq ?_
  refine At.region ?_
  refine L.as rfl rfl ?_
  refine L.nil ?_
  refine At.then ?_
  refine At.seq ?_
  refine At.region ?_
  refine L.as rfl rfl ?_
  refine L.nil ?_
  refine At.then ?_
  refine At.ret ?_
  refine At.inBlockRet (At.inBlockRet (At.roundRet (At.inBlockRet ?_)))
  exact At.ret1 [blk t 159 #[o]] rfl rfl ⟨rfl, rfl⟩ (Ent.drop.trans Ent.drop)
theorem As_fault (e : Addr) (t : Nat) (o : Value) : Does Tryz.prog Good 91 [.iface 159 (.pointer (some e)), .iface 161 (.pointer (some ⟨t, 0, none⟩))].toArray [blk t 159 #[o]] fun v m => v = .bool true ∧ m = [blk t 159 #[.pointer (some e)]] := by
  refine Does.body Tryz.func91 rfl rfl fun E fr hE => ?_
  refine At.app1 ?_
  refine At.seq ?_
  refine At.region ?_
  refine L.as rfl rfl ?_
  refine L.nil ?_
  refine At.then ?_
  refine At.seq ?_
  refine At.seq ?_
  refine At.region ?_
  refine L.mv rfl rfl ?_
  refine L.pure rfl (ev_eqlNil rfl rfl) ?_
  refine L.nil ?_
  refine At.then ?_
  refine At.condF rfl ?_
  refine At.skip ?_
  refine At.then ?_
  refine At.seq ?_
  refine At.seq ?_
  refine At.region ?_
  refine L.mv rfl rfl ?_
  refine L.pure rfl (ev_eqlNil rfl rfl) ?_
  refine L.nil ?_
  refine At.then ?_
  refine At.condF rfl ?_
  refine At.skip ?_
  refine At.then ?_
  refine At.seq ?_
  refine At.region ?_
  refine L.mv rfl rfl ?_
  refine L.op rfl (o_ext (v := fun b => rv 161 b 150) rfl rfl (fun w => valueOfPF t w) fun bv => ?_)
  refine L.op rfl (o_alloc (z := .agg #[.pointer none, .pointer none, .int .u64 0]) rfl rfl fun b5 => ?_)
  refine L.op rfl (o_storeN rfl (m := 3) (vs := [hnd 161, .pointer (some ⟨bv, 0, none⟩), .int .u64 150]) rfl rfl rfl rfl (by simp [Value.oneCell']) (by simp [Value.cells]) ?_)
  refine L.nil ?_
  refine At.then ?_
  refine At.seq ?_
  refine At.region ?_
  refine L.val rfl (ev_loadN (vs := [hnd 161, .pointer (some ⟨bv, 0, none⟩), .int .u64 150]) rfl rfl rfl rfl) (rowAll rfl) ?_
  refine L.pure rfl (ev_ext rfl fun w _ => typePF bv w) ?_
  refine L.as rfl rfl ?_
  refine L.nil ?_
  refine At.then ?_
  refine At.seq ?_
  refine At.seq ?_
  refine At.region ?_
  refine L.mv rfl rfl ?_
  refine L.pure rfl (ev_mext rfl rfl (mKind _) fun w _ => kindPF w) ?_
  refine L.pure rfl (ev_neq rfl rfl rfl) ?_
  refine L.mv rfl rfl ?_
  refine L.on rfl rfl rfl (L.vala rfl (ev_loadN (vs := [hnd 161, .pointer (some ⟨bv, 0, none⟩), .int .u64 150]) rfl rfl rfl rfl) (rowAll rfl) ?_)
  refine L.on rfl rfl rfl (L.vala rfl (ev_ext (args := [rv 161 bv 150]) (φ := CellIs ⟨bv, 0, none⟩ (.pointer (some ⟨t, 0, none⟩))) rfl fun w h => isNilPF bv t w h) (cellIs rfl) ?_)
  refine L.pure rfl (ev_pick rfl rfl rfl) ?_
  refine L.nil ?_
  refine At.then ?_
  refine At.condF rfl ?_
  refine At.skip ?_
  refine At.then ?_
  refine At.seq ?_
  refine At.region ?_
  refine L.mv rfl rfl ?_
  refine L.pure rfl (ev_mext rfl rfl (mElem _) fun w _ => elemPF w) ?_
  refine L.as rfl rfl ?_
  refine L.nil ?_
  refine At.then ?_
  refine At.seq ?_
  refine At.seq ?_
  refine At.region ?_
  refine L.mv rfl rfl ?_
  refine L.pure rfl (ev_mext rfl rfl (mKind _) fun w _ => kindF w) ?_
  refine L.pure rfl (ev_neq rfl rfl rfl) ?_
  refine L.mv rfl rfl ?_
  refine L.on rfl rfl rfl (L.vala rfl (ev_move rfl) (fun _ _ => trivial) ?_)
  refine L.on rfl rfl rfl (L.vala rfl (ev_load1 rfl rfl) (fun w hw => hE.err w hw.is) ?_)
  refine L.on rfl rfl rfl (L.vala rfl (ev_mext rfl rfl (mImplements _) fun w _ => implementsF w) (fun _ _ => trivial) ?_)
  refine L.on rfl rfl rfl (L.vala rfl (ev_not rfl rfl) (fun _ _ => trivial) ?_)
  refine L.pure rfl (ev_pick rfl rfl rfl) ?_
  refine L.nil ?_
  refine At.then ?_
  refine At.condF rfl ?_
  refine At.skip ?_
  refine At.then ?_
  refine At.seq ?_
  refine At.region ?_
  refine L.mv rfl rfl ?_
  refine L.mv rfl rfl ?_
  refine L.val rfl (ev_loadN (vs := [hnd 161, .pointer (some ⟨bv, 0, none⟩), .int .u64 150]) rfl rfl rfl rfl) (rowAll rfl) ?_
  refine L.mv rfl rfl ?_
  refine L.op rfl (o_call rfl rfl rfl hE (asF_hit e t bv o) (Ent.sel2 (.tail (.head)) (.tail (.head))) ?_)
  rintro v m ⟨rfl, rfl⟩
  refine At.app1 ?_
  refine L.as rfl rfl ?_
  refine L.nil ?_
  refine At.then ?_
  refine At.ret ?_
  exact At.ret1 [blk t 159 #[.pointer (some e)]] rfl rfl ⟨rfl, rfl⟩ (Ent.cons Ent.drop)
theorem As_errno (e : Int) (t : Nat) (o : Value) : Does Tryz.prog Good 91 [.iface 48 (.int .i64 e), .iface 165 (.pointer (some ⟨t, 0, none⟩))].toArray [blk t 48 #[o]] fun v m => v = .bool true ∧ m = [blk t 48 #[.int .i64 e]] := by
  refine Does.body Tryz.func91 rfl rfl fun E fr hE => ?_
  refine At.app1 ?_
  refine At.seq ?_
  refine At.region ?_
  refine L.as rfl rfl ?_
  refine L.nil ?_
  refine At.then ?_
  refine At.seq ?_
  refine At.seq ?_
  refine At.region ?_
  refine L.mv rfl rfl ?_
  refine L.pure rfl (ev_eqlNil rfl rfl) ?_
  refine L.nil ?_
  refine At.then ?_
  refine At.condF rfl ?_
  refine At.skip ?_
  refine At.then ?_
  refine At.seq ?_
  refine At.seq ?_
  refine At.region ?_
  refine L.mv rfl rfl ?_
  refine L.pure rfl (ev_eqlNil rfl rfl) ?_
  refine L.nil ?_
  refine At.then ?_
  refine At.condF rfl ?_
  refine At.skip ?_
  refine At.then ?_
  refine At.seq ?_
  refine At.region ?_
  refine L.mv rfl rfl ?_
  refine L.op rfl (o_ext (v := fun b => rv 165 b 150) rfl rfl (fun w => valueOfPN t w) fun bv => ?_)
  refine L.op rfl (o_alloc (z := .agg #[.pointer none, .pointer none, .int .u64 0]) rfl rfl fun b5 => ?_)
  refine L.op rfl (o_storeN rfl (m := 3) (vs := [hnd 165, .pointer (some ⟨bv, 0, none⟩), .int .u64 150]) rfl rfl rfl rfl (by simp [Value.oneCell']) (by simp [Value.cells]) ?_)
  refine L.nil ?_
  refine At.then ?_
  refine At.seq ?_
  refine At.region ?_
  refine L.val rfl (ev_loadN (vs := [hnd 165, .pointer (some ⟨bv, 0, none⟩), .int .u64 150]) rfl rfl rfl rfl) (rowAll rfl) ?_
  refine L.pure rfl (ev_ext rfl fun w _ => typePN bv w) ?_
  refine L.as rfl rfl ?_
  refine L.nil ?_
  refine At.then ?_
  refine At.seq ?_
  refine At.seq ?_
  refine At.region ?_
  refine L.mv rfl rfl ?_
  refine L.pure rfl (ev_mext rfl rfl (mKind _) fun w _ => kindPN w) ?_
  refine L.pure rfl (ev_neq rfl rfl rfl) ?_
  refine L.mv rfl rfl ?_
  refine L.on rfl rfl rfl (L.vala rfl (ev_loadN (vs := [hnd 165, .pointer (some ⟨bv, 0, none⟩), .int .u64 150]) rfl rfl rfl rfl) (rowAll rfl) ?_)
  refine L.on rfl rfl rfl (L.vala rfl (ev_ext (args := [rv 165 bv 150]) (φ := CellIs ⟨bv, 0, none⟩ (.pointer (some ⟨t, 0, none⟩))) rfl fun w h => isNilPN bv t w h) (cellIs rfl) ?_)
  refine L.pure rfl (ev_pick rfl rfl rfl) ?_
  refine L.nil ?_
  refine At.then ?_
  refine At.condF rfl ?_
  refine At.skip ?_
  refine At.then ?_
  refine At.seq ?_
  refine At.region ?_
  refine L.mv rfl rfl ?_
  refine L.pure rfl (ev_mext rfl rfl (mElem _) fun w _ => elemPN w) ?_
  refine L.as rfl rfl ?_
  refine L.nil ?_
  refine At.then ?_
  refine At.seq ?_
  refine At.seq ?_
  refine At.region ?_
  refine L.mv rfl rfl ?_
  refine L.pure rfl (ev_mext rfl rfl (mKind _) fun w _ => kindN w) ?_
  refine L.pure rfl (ev_neq rfl rfl rfl) ?_
  refine L.mv rfl rfl ?_
  refine L.on rfl rfl rfl (L.vala rfl (ev_move rfl) (fun _ _ => trivial) ?_)
  refine L.on rfl rfl rfl (L.vala rfl (ev_load1 rfl rfl) (fun w hw => hE.err w hw.is) ?_)
  refine L.on rfl rfl rfl (L.vala rfl (ev_mext rfl rfl (mImplements _) fun w _ => implementsN w) (fun _ _ => trivial) ?_)
  refine L.on rfl rfl rfl (L.vala rfl (ev_not rfl rfl) (fun _ _ => trivial) ?_)
  refine L.pure rfl (ev_pick rfl rfl rfl) ?_
  refine L.nil ?_
  refine At.then ?_
  refine At.condF rfl ?_
  refine At.skip ?_
  refine At.then ?_
  refine At.seq ?_
  refine At.region ?_
  refine L.mv rfl rfl ?_
  refine L.mv rfl rfl ?_
  refine L.val rfl (ev_loadN (vs := [hnd 165, .pointer (some ⟨bv, 0, none⟩), .int .u64 150]) rfl rfl rfl rfl) (rowAll rfl) ?_
  refine L.mv rfl rfl ?_
  refine L.op rfl (o_call rfl rfl rfl hE (asN_hit e t bv o) (Ent.sel2 (.tail (.head)) (.tail (.head))) ?_)
  rintro v m ⟨rfl, rfl⟩
  refine At.app1 ?_
  refine L.as rfl rfl ?_
  refine L.nil ?_
  refine At.then ?_
  refine At.ret ?_
  exact At.ret1 [blk t 48 #[.int .i64 e]] rfl rfl ⟨rfl, rfl⟩ (Ent.cons Ent.drop)
theorem As_miss (x : Int) (t : Nat) (o : Value) : Does Tryz.prog Good 91 [.iface 48 (.int .i64 x), .iface 161 (.pointer (some ⟨t, 0, none⟩))].toArray [blk t 159 #[o]] fun v m => v = .bool false ∧ m = [blk t 159 #[o]] := by
  refine Does.body Tryz.func91 rfl rfl fun E fr hE => ?_
  refine At.app1 ?_
  refine At.seq ?_
  refine At.region ?_
  refine L.as rfl rfl ?_
  refine L.nil ?_
  refine At.then ?_
  refine At.seq ?_
  refine At.seq ?_
  refine At.region ?_
  refine L.mv rfl rfl ?_
  refine L.pure rfl (ev_eqlNil rfl rfl) ?_
  refine L.nil ?_
  refine At.then ?_
  refine At.condF rfl ?_
  refine At.skip ?_
  refine At.then ?_
  refine At.seq ?_
  refine At.seq ?_
  refine At.region ?_
  refine L.mv rfl rfl ?_
  refine L.pure rfl (ev_eqlNil rfl rfl) ?_
  refine L.nil ?_
  refine At.then ?_
  refine At.condF rfl ?_
  refine At.skip ?_
  refine At.then ?_
  refine At.seq ?_
  refine At.region ?_
  refine L.mv rfl rfl ?_
  refine L.op rfl (o_ext (v := fun b => rv 161 b 150) rfl rfl (fun w => valueOfPF t w) fun bv => ?_)
  refine L.op rfl (o_alloc (z := .agg #[.pointer none, .pointer none, .int .u64 0]) rfl rfl fun b5 => ?_)
  refine L.op rfl (o_storeN rfl (m := 3) (vs := [hnd 161, .pointer (some ⟨bv, 0, none⟩), .int .u64 150]) rfl rfl rfl rfl (by simp [Value.oneCell']) (by simp [Value.cells]) ?_)
  refine L.nil ?_
  refine At.then ?_
  refine At.seq ?_
  refine At.region ?_
  refine L.val rfl (ev_loadN (vs := [hnd 161, .pointer (some ⟨bv, 0, none⟩), .int .u64 150]) rfl rfl rfl rfl) (rowAll rfl) ?_
  refine L.pure rfl (ev_ext rfl fun w _ => typePF bv w) ?_
  refine L.as rfl rfl ?_
  refine L.nil ?_
  refine At.then ?_
  refine At.seq ?_
  refine At.seq ?_
  refine At.region ?_
  refine L.mv rfl rfl ?_
  refine L.pure rfl (ev_mext rfl rfl (mKind _) fun w _ => kindPF w) ?_
  refine L.pure rfl (ev_neq rfl rfl rfl) ?_
  refine L.mv rfl rfl ?_
  refine L.on rfl rfl rfl (L.vala rfl (ev_loadN (vs := [hnd 161, .pointer (some ⟨bv, 0, none⟩), .int .u64 150]) rfl rfl rfl rfl) (rowAll rfl) ?_)
  refine L.on rfl rfl rfl (L.vala rfl (ev_ext (args := [rv 161 bv 150]) (φ := CellIs ⟨bv, 0, none⟩ (.pointer (some ⟨t, 0, none⟩))) rfl fun w h => isNilPF bv t w h) (cellIs rfl) ?_)
  refine L.pure rfl (ev_pick rfl rfl rfl) ?_
  refine L.nil ?_
  refine At.then ?_
  refine At.condF rfl ?_
  refine At.skip ?_
  refine At.then ?_
  refine At.seq ?_
  refine At.region ?_
  refine L.mv rfl rfl ?_
  refine L.pure rfl (ev_mext rfl rfl (mElem _) fun w _ => elemPF w) ?_
  refine L.as rfl rfl ?_
  refine L.nil ?_
  refine At.then ?_
  refine At.seq ?_
  refine At.seq ?_
  refine At.region ?_
  refine L.mv rfl rfl ?_
  refine L.pure rfl (ev_mext rfl rfl (mKind _) fun w _ => kindF w) ?_
  refine L.pure rfl (ev_neq rfl rfl rfl) ?_
  refine L.mv rfl rfl ?_
  refine L.on rfl rfl rfl (L.vala rfl (ev_move rfl) (fun _ _ => trivial) ?_)
  refine L.on rfl rfl rfl (L.vala rfl (ev_load1 rfl rfl) (fun w hw => hE.err w hw.is) ?_)
  refine L.on rfl rfl rfl (L.vala rfl (ev_mext rfl rfl (mImplements _) fun w _ => implementsF w) (fun _ _ => trivial) ?_)
  refine L.on rfl rfl rfl (L.vala rfl (ev_not rfl rfl) (fun _ _ => trivial) ?_)
  refine L.pure rfl (ev_pick rfl rfl rfl) ?_
  refine L.nil ?_
  refine At.then ?_
  refine At.condF rfl ?_
  refine At.skip ?_
  refine At.then ?_
  refine At.seq ?_
  refine At.region ?_
  refine L.mv rfl rfl ?_
  refine L.mv rfl rfl ?_
  refine L.val rfl (ev_loadN (vs := [hnd 161, .pointer (some ⟨bv, 0, none⟩), .int .u64 150]) rfl rfl rfl rfl) (rowAll rfl) ?_
  refine L.mv rfl rfl ?_
  refine L.op rfl (o_call rfl rfl rfl hE (asNF_miss x t bv o) (Ent.sel2 (.tail (.head)) (.tail (.head))) ?_)
  rintro v m ⟨rfl, rfl⟩
  refine At.app1 ?_
  refine L.as rfl rfl ?_
  refine L.nil ?_
  refine At.then ?_
  refine At.ret ?_
  exact At.ret1 [blk t 159 #[o]] rfl rfl ⟨rfl, rfl⟩ (Ent.cons Ent.drop)
end Go.Proofs.YtmeegfamopaljaaGreatDoor
