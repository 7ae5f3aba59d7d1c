/- The law Wheeled, walked. -/
import Derived.Test.YtagkobkmaigfcaaDoorWdP
namespace Go.Proofs.YtagkobkmaigfcaaDoor
open Go Go.RowKit Go.SL

/-- a script of a wheel, as it came in -/
structure TurnsAt (w : World) (A : Option Addr) (c : Nat) (l : List (Int × Int × Nat)) : Prop where
  len : l.length ≤ 9223372036854775807
  cells : 0 < l.length → ∃ b off, A = some ⟨b, off, none⟩ ∧ ∀ i t, l[i]? = some t → RowIs b (off + i * 3) [.int .i64 t.1, .int .i64 t.2.1, .int .u64 t.2.2] w ∧ t.2.2 < 18446744073709551616

theorem two0 {now : Nat} (h : now ≤ 4611686018427387904) : Two (WS0 now) [] 0 := ⟨inv0 h, ⟨List.Pairwise.nil, (fun x hx => by cases hx), (fun x hx => by cases hx), List.nodup_nil, by simp⟩, rfl⟩

set_option maxRecDepth 10000 in
set_option maxHeartbeats 1000000 in
theorem wheeled_gives (A : Option Addr) (c : Nat) (tl : List (Int × Int × Nat)) (now : Nat) : Gives Tryd.prog Good 6 [.slice A tl.length c, .int .u64 now].toArray (fun w => TurnsAt w A c tl) fun v m => v = .bool true ∧ m = [] := by
  refine Gives.body Tryd.func6 rfl rfl fun E w0 hE h0 hN => ?_
  have hlen := hN.len
  refine At.seq ?_
  refine At.region ?_
  refine L.as rfl rfl ?_
  refine L.nil ?_
  refine At.then ?_
  refine At.seq ?_
  refine At.seq ?_
  refine At.region ?_
  refine L.mv rfl rfl ?_
  refine L.pure rfl (ev_lenS rfl rfl) ?_
  refine L.pure rfl (ev_gtr rfl rfl rfl) ?_
  refine L.nil ?_
  refine At.then ?_
  refine At.condD rfl (fun c11 => ?_) (fun c11 => ?_)
  ·
    refine At.seq ?_
    refine At.region ?_
    refine L.as rfl rfl ?_
    refine L.nil ?_
    refine At.then ?_
    refine At.ret ?_
    refine At.thenRet ?_
    exact At.ret1 [] rfl rfl ⟨rfl, rfl⟩ (Ent.refl _)
  ·
    refine At.skip ?_
    refine At.then ?_
    refine At.seq ?_
    refine At.region ?_
    refine L.mv rfl rfl ?_
    refine L.op rfl (o_call rfl rfl rfl hE (newWheel_does now) (Ent.refl _) ?_)
    rintro v m ⟨x, rfl, rfl⟩
    refine At.app1 ?_
    refine L.as rfl rfl ?_
    refine L.nil ?_
    refine At.then ?_
    refine At.seq ?_
    refine At.seq ?_
    refine At.region ?_
    refine L.mv rfl rfl ?_
    refine L.pure rfl (ev_eqlNilP rfl rfl rfl) ?_
    refine L.nil ?_
    refine At.then ?_
    refine At.condF rfl ?_
    refine At.skip ?_
    refine At.then ?_
    refine At.seq (At.cut (X := Nat) (fun y => [(1, .int .u64 y), (0, .slice A tl.length c), (5, ptr x)]) (fun _ => fkw x (WS0 (min now 4611686018427387904)) :: [SL.old E w0]) (fun y => y = min now 4611686018427387904) ?_ ?_)
    ·
      refine At.seq ?_
      refine At.region ?_
      refine L.mv rfl rfl ?_
      refine L.pure rfl (ev_gtr rfl rfl rfl) ?_
      refine L.nil ?_
      refine At.then ?_
      refine At.condD rfl (fun c17 => ?_) (fun c17 => ?_)
      ·
        refine At.region ?_
        refine L.as rfl rfl ?_
        refine L.nil ?_
        exact At.meet 4611686018427387904 (by omega) ⟨rfl, rfl, rfl, trivial⟩ (Ent.refl _)
      ·
        refine At.skip ?_
        exact At.meet now (by omega) ⟨rfl, rfl, rfl, trivial⟩ (Ent.refl _)
    intro y hy
    rw [← hy]
    refine At.seq ?_
    refine At.region ?_
    refine L.mv rfl rfl ?_
    refine L.pure rfl (ev_build (cs := #[.int .u64 y, .slice none 0 0, .int .i64 0]) rfl rfl rfl rfl rfl) ?_
    refine L.op rfl (o_box rfl rfl fun m => ?_)
    refine L.as rfl rfl ?_
    refine L.nil ?_
    refine At.then ?_
    refine At.seq ?_
    refine At.seq ?_
    refine At.region ?_
    refine L.as rfl rfl ?_
    refine L.nil ?_
    refine At.then ?_
    refine At.block ?_
    refine At.loop (X := Nat × FK.WS × List RT × Nat) (fun p => [(7, .int .i64 (p.1 : Nat)), (0, .slice A tl.length c), (5, ptr x), (6, ptr m)]) (fun p => fkw x p.2.1 :: rw m p.2.1.now p.2.2.1 p.2.2.2 :: [SL.old E w0]) (fun p => p.1 ≤ tl.length ∧ Two p.2.1 p.2.2.1 p.2.2.2 ∧ p.2.1.seq ≤ p.1 ∧ p.2.2.2 ≤ p.1) (fun p => tl.length - p.1) (0, WS0 y, [], 0) ⟨Nat.zero_le _, two0 (by omega), Nat.le_refl _, Nat.le_refl _⟩ ⟨rfl, rfl, rfl, rfl, trivial⟩ (by
  refine (Ent.trans ?_ (Ent.perm (List.Perm.swap _ _ _)))
  exact (Ent.cons Ent.row0).trans (Ent.closeRw (L := []) (v := .slice none 0 0))) ?_
    rintro ⟨i, S, rs, sq⟩ ⟨hi, hT, hs1, hs2⟩
    replace hi : i ≤ tl.length := hi
    replace hT : Two S rs sq := hT
    replace hs1 : S.seq ≤ i := hs1
    replace hs2 : sq ≤ i := hs2
    refine At.seq ?_
    refine At.seq ?_
    refine At.region ?_
    refine L.mv rfl rfl ?_
    refine L.mv rfl rfl ?_
    refine L.pure rfl (ev_lenS rfl rfl) ?_
    refine L.pure rfl (ev_lss rfl rfl rfl) ?_
    refine L.nil ?_
    refine At.then ?_
    refine At.condD rfl (fun c24 => ?_) (fun c24 => ?_)
    ·
      have hlt : i < tl.length := by omega
      obtain ⟨t, ht⟩ : ∃ t, tl[i]? = some t := ⟨tl[i], by simp [hlt]⟩
      obtain ⟨b, off, rfl, hcell⟩ := hN.cells (by omega)
      obtain ⟨hrow, hn⟩ := hcell i t ht
      refine At.skip ?_
      refine At.then ?_
      refine At.seq ?_
      refine At.block ?_
      refine At.seq ?_
      refine At.region ?_
      refine L.mv rfl rfl ?_
      refine L.mv rfl rfl ?_
      refine L.mv rfl rfl ?_
      refine L.mv rfl rfl ?_
      refine L.pure rfl (ev_ixN (z := 3) rfl rfl rfl rfl hlt) ?_
      refine L.val rfl (ev_loadN (vs := [.int .i64 t.1, .int .i64 t.2.1, .int .u64 t.2.2]) rfl rfl rfl rfl) (rowOld (.tail (.tail (.head))) h0 hrow) ?_
      refine L.op rfl (o_call rfl rfl rfl hE (turns_does x m sq t.2.2 t.1 t.2.1 hT hn (by omega) (by omega)) (Ent.refl _) ?_)
      rintro v m ⟨rfl, S', rs', sq', hT', hs1', hs2', rfl⟩
      refine At.app2 ?_
      refine L.as rfl rfl ?_
      refine L.nil ?_
      refine At.then ?_
      refine At.seq ?_
      refine At.region ?_
      refine L.mv rfl rfl ?_
      refine L.pure rfl (ev_not (r := false) rfl rfl) ?_
      refine L.nil ?_
      refine At.then ?_
      refine At.condF rfl ?_
      refine At.skip ?_
      refine At.inBlock (At.then ?_)
      refine At.region ?_
      refine L.mv rfl rfl ?_
      refine L.pure rfl (ev_add (r := ((i + 1 : Nat) : Int)) rfl rfl (by rw [w64 (by omega)]; omega)) ?_
      refine L.as rfl rfl ?_
      refine L.nil ?_
      exact At.round (i + 1, S', rs', sq') ⟨hlt, hT', by show S'.seq ≤ i + 1; omega, by show sq' ≤ i + 1; omega⟩ (by show _ - (i + 1) < _ - i; omega) ⟨rfl, rfl, rfl, rfl, trivial⟩ (Ent.refl _)
    ·
      refine At.exit ?_
      refine At.thenExit (At.roundExit (At.inBlockHit (At.then ?_)))
      refine At.seq ?_
      refine At.region ?_
      refine L.as rfl rfl ?_
      refine L.nil ?_
      refine At.then ?_
      refine At.ret ?_
      exact At.ret1 [] rfl rfl ⟨rfl, rfl⟩ (Ent.drop.trans Ent.drop)
  -- unused hints: ['nojoin r11']
end Go.Proofs.YtagkobkmaigfcaaDoor
