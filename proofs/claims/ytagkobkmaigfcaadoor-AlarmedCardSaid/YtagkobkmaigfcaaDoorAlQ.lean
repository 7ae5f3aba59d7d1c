/- The law Alarmed, walked. -/
import Derived.Test.YtagkobkmaigfcaaDoorAlP
import Derived.Test.YtagkobkmaigfcaaDoorAlB
namespace Go.Proofs.YtagkobkmaigfcaaDoor
open Go Go.RowKit Go.SL
open FK (upd upd_at upd_off)

set_option maxRecDepth 10000 in
theorem kpick (c : Int) (n : Nat) (hc : i64 c) (hn : 0 < n) (hn2 : n < 9223372036854775808) : Does Tryd.prog Good 19 [.int .i64 c, .int .i64 n].toArray [] fun v m => ∃ k : Int, v = .int .i64 k ∧ (0 ≤ k ∧ k < n) ∧ m = [] := by
  have hc' := hc
  unfold i64 at hc'
  refine Does.body Tryd.func19 rfl rfl fun E fr hE => ?_
  refine At.app0 ?_
  refine At.seq ?_
  refine At.region ?_
  refine L.as rfl rfl ?_
  refine L.nil ?_
  refine At.then ?_
  refine At.seq (At.cut (X := Int) (fun x => [(0, .int .i64 x), (1, .int .i64 n)]) (fun _ => fr) (fun x => 0 ≤ x) ?_ ?_)
  ·
    refine At.seq ?_
    refine At.region ?_
    refine L.mv rfl rfl ?_
    refine L.pure rfl (ev_lss rfl rfl rfl) ?_
    refine L.nil ?_
    refine At.then ?_
    refine At.condD rfl (fun c6 => ?_) (fun c6 => ?_)
    ·
      refine At.region ?_
      refine L.mv rfl rfl ?_
      refine L.pure rfl (ev_add rfl rfl (w64 (by omega))) ?_
      refine L.pure rfl (ev_neg rfl (w64 (by omega))) ?_
      refine L.as rfl rfl ?_
      refine L.nil ?_
      exact At.meet _ (by omega) ⟨rfl, rfl, trivial⟩ (Ent.refl _)
    ·
      refine At.skip ?_
      exact At.meet c (by omega) ⟨rfl, rfl, trivial⟩ (Ent.refl _)
  intro x hx
  refine At.seq ?_
  refine At.region ?_
  refine L.mv rfl rfl ?_
  refine L.mv rfl rfl ?_
  refine L.pure rfl (ev_rem rfl rfl (by omega) rfl) ?_
  refine L.as rfl rfl ?_
  refine L.nil ?_
  refine At.then ?_
  refine At.ret ?_
  exact At.ret1 [] rfl rfl ⟨_, rfl, ⟨Int.tmod_nonneg _ hx, Int.tmod_lt_of_pos _ (by omega)⟩, rfl⟩ (Ent.refl _)

theorem infoU64 : elemIs Tryd.prog 25 (.int .u64 0) 1 8 := by unfold elemIs; kernel_rfl
theorem infoBoo : elemIs Tryd.prog 4 (.bool false) 1 1 := by unfold elemIs; kernel_rfl
theorem wcN_zero (n : Nat) (z : Value) : (List.replicate n z).toArray = wcN n (fun _ => z) := by
  unfold wcN
  congr 1
  apply List.ext_getElem <;> simp
theorem wcN_nat {n : Nat} (f : Nat → Nat) (i x : Nat) : wcN n (upd (fun k => .int .u64 (f k)) i (.int .u64 x)) = wcN n fun k => .int .u64 ((upd f i x k : Nat) : Int) := wcN_congr fun k _ => by
  by_cases h : k = i
  · subst h; rw [upd_at, upd_at]
  · rw [upd_off _ _ h, upd_off _ _ h]
theorem wcN_boo {n : Nat} (f : Nat → Bool) (i : Nat) (x : Bool) : wcN n (upd (fun k => .bool (f k)) i (.bool x)) = wcN n fun k => .bool (upd f i x k) := wcN_congr fun k _ => by
  by_cases h : k = i
  · subst h; rw [upd_at, upd_at]
  · rw [upd_off _ _ h, upd_off _ _ h]
theorem wcN_get {n : Nat} (f : Nat → Value) {i : Nat} (h : i < n) : (wcN n f)[0 + i * 1]? = some (f i) := by rw [show 0 + i * 1 = i by omega]; exact wcN_at f h
theorem wcN_put {n : Nat} (f : Nat → Value) (i : Nat) (v : Value) : (wcN n f).setIfInBounds (0 + i * 1) v = wcN n (upd f i v) := by rw [show 0 + i * 1 = i by omega]; exact wcN_set n f i v
theorem intsOld {E : Env} {l r : List HP} {w0 : World} {b off : Nat} {xs : List Int} {i : Nat} {x : Int} (s : Sel (old E w0) l r) (h0 : E.is w0) (h : ∀ i x, xs[i]? = some x → w0.cell? ⟨b, off + i, none⟩ = some (.int .i64 x)) (hx : xs[i]? = some x) : ∀ w, Holds E w l → CellIs ⟨b, off + i * 1, none⟩ (.int .i64 x) w :=
  cellOld s h0 (by rw [Nat.mul_one]; exact h i x hx)

set_option maxRecDepth 10000 in
set_option maxHeartbeats 10000000 in
theorem alarmed_gives (start : Int) (hst : i64 start) (A0 A1 A2 : Option Addr) (c0 c1 c2 : Nat) (l0 l1 l2 : List Int) :
    Gives Tryd.prog Good 7 [.slice A0 l0.length c0, .slice A1 l1.length c1, .slice A2 l2.length c2, .int .i64 start].toArray (fun w => IntsAt w w.heap.size A0 c0 l0 ∧ IntsAt w w.heap.size A1 c1 l1 ∧ IntsAt w w.heap.size A2 c2 l2)
      fun v m => v = .bool true ∧ m = [] := by
  refine Gives.body Tryd.func7 rfl rfl fun E w0 hE h0 ⟨hN0, hN1, hN2⟩ => ?_
  have hL1 : l1.length ≤ 9223372036854775807 := Nat.le_trans hN1.len hN1.cap
  obtain ⟨n, hn⟩ : ∃ n, n = l0.length := ⟨_, rfl⟩
  refine At.seq ?_
  refine At.region ?_
  refine L.as rfl rfl ?_
  refine L.nil ?_
  refine At.then ?_
  refine At.seq ?_
  refine At.region ?_
  refine L.mv rfl rfl ?_
  refine L.op rfl (o_call rfl rfl rfl hE (kpick start 1099511627776 hst (by omega) (by omega)) (Ent.refl _) ?_)
  rintro v m ⟨k0, rfl, ⟨h1, h2⟩, rfl⟩
  refine At.app0 ?_
  obtain ⟨now, rfl⟩ : ∃ q : Nat, k0 = q := ⟨k0.toNat, by omega⟩
  have hnow : now < 1099511627776 := by omega
  refine L.pure rfl (ev_conv (r := (now : Int)) rfl rfl rfl (by rw [mu64]; omega)) ?_
  refine L.as rfl rfl ?_
  refine L.nil ?_
  refine At.then ?_
  refine At.seq ?_
  refine At.region ?_
  refine L.mv rfl rfl ?_
  refine L.op rfl (o_call rfl rfl rfl hE (newWheel_does now) (Ent.refl _) ?_)
  rintro v m ⟨x, rfl, rfl⟩
  refine At.app1 ?_
  rw [show min now 4611686018427387904 = now by omega]
  refine L.as rfl rfl ?_
  refine L.nil ?_
  refine At.then ?_
  refine At.seq ?_
  refine At.seq ?_
  by_cases ha : 100 < l0.length
  ·
    refine At.region ?_
    refine L.mv rfl rfl ?_
    refine L.pure rfl (ev_eqlNilP (r := false) rfl rfl rfl) ?_
    refine L.mv rfl rfl ?_
    refine L.on rfl rfl rfl (L.vala rfl (ev_move rfl) (fun _ _ => trivial) ?_)
    refine L.on rfl rfl rfl (L.vala rfl (ev_lenS rfl rfl) (fun _ _ => trivial) ?_)
    refine L.on rfl rfl rfl (L.vala rfl (ev_gtr (r := true) rfl rfl (by rw [decide_eq_true_iff]; omega)) (fun _ _ => trivial) ?_)
    refine L.pure rfl (ev_pick rfl rfl rfl) ?_
    refine L.mv rfl rfl ?_
    refine L.off rfl rfl rfl rfl rfl rfl ?_
    refine L.off rfl rfl rfl rfl rfl rfl ?_
    refine L.off rfl rfl rfl rfl rfl rfl ?_
    refine L.pure rfl (ev_pick rfl rfl rfl) ?_
    refine L.nil ?_
    refine At.then ?_
    refine At.condT rfl ?_
    refine At.seq ?_
    refine At.region ?_
    refine L.mv rfl rfl ?_
    refine L.pure rfl (ev_neqNilP (r := true) rfl rfl rfl) ?_
    refine L.as rfl rfl ?_
    refine L.nil ?_
    refine At.then ?_
    refine At.ret ?_
    refine At.thenRet ?_
    exact At.ret1 [] rfl rfl ⟨rfl, rfl⟩ Ent.drop
  ·
    by_cases hb : 200 < l2.length
    ·
      refine At.region ?_
      refine L.mv rfl rfl ?_
      refine L.pure rfl (ev_eqlNilP (r := false) rfl rfl rfl) ?_
      refine L.mv rfl rfl ?_
      refine L.on rfl rfl rfl (L.vala rfl (ev_move rfl) (fun _ _ => trivial) ?_)
      refine L.on rfl rfl rfl (L.vala rfl (ev_lenS rfl rfl) (fun _ _ => trivial) ?_)
      refine L.on rfl rfl rfl (L.vala rfl (ev_gtr (r := false) rfl rfl (by rw [decide_eq_false_iff_not]; omega)) (fun _ _ => trivial) ?_)
      refine L.pure rfl (ev_pick rfl rfl rfl) ?_
      refine L.mv rfl rfl ?_
      refine L.on rfl rfl rfl (L.vala rfl (ev_move rfl) (fun _ _ => trivial) ?_)
      refine L.on rfl rfl rfl (L.vala rfl (ev_lenS rfl rfl) (fun _ _ => trivial) ?_)
      refine L.on rfl rfl rfl (L.vala rfl (ev_gtr (r := true) rfl rfl (by rw [decide_eq_true_iff]; omega)) (fun _ _ => trivial) ?_)
      refine L.pure rfl (ev_pick rfl rfl rfl) ?_
      refine L.nil ?_
      refine At.then ?_
      refine At.condT rfl ?_
      refine At.seq ?_
      refine At.region ?_
      refine L.mv rfl rfl ?_
      refine L.pure rfl (ev_neqNilP (r := true) rfl rfl rfl) ?_
      refine L.as rfl rfl ?_
      refine L.nil ?_
      refine At.then ?_
      refine At.ret ?_
      refine At.thenRet ?_
      exact At.ret1 [] rfl rfl ⟨rfl, rfl⟩ Ent.drop
    ·
      refine At.region ?_
      refine L.mv rfl rfl ?_
      refine L.pure rfl (ev_eqlNilP (r := false) rfl rfl rfl) ?_
      refine L.mv rfl rfl ?_
      refine L.on rfl rfl rfl (L.vala rfl (ev_move rfl) (fun _ _ => trivial) ?_)
      refine L.on rfl rfl rfl (L.vala rfl (ev_lenS rfl rfl) (fun _ _ => trivial) ?_)
      refine L.on rfl rfl rfl (L.vala rfl (ev_gtr (r := false) rfl rfl (by rw [decide_eq_false_iff_not]; omega)) (fun _ _ => trivial) ?_)
      refine L.pure rfl (ev_pick rfl rfl rfl) ?_
      refine L.mv rfl rfl ?_
      refine L.on rfl rfl rfl (L.vala rfl (ev_move rfl) (fun _ _ => trivial) ?_)
      refine L.on rfl rfl rfl (L.vala rfl (ev_lenS rfl rfl) (fun _ _ => trivial) ?_)
      refine L.on rfl rfl rfl (L.vala rfl (ev_gtr (r := false) rfl rfl (by rw [decide_eq_false_iff_not]; omega)) (fun _ _ => trivial) ?_)
      refine L.pure rfl (ev_pick rfl rfl rfl) ?_
      refine L.nil ?_
      refine At.then ?_
      refine At.condF rfl ?_
      refine At.skip ?_
      refine At.then ?_
      refine At.seq ?_
      have hI0 := inv0 (now := now) (by omega)
      have hR5 : FK.setR (WS0 now).now ((WS0 now).tms.map FK.kd) 1000 (now + 5) = (0, [((1000 : Int), now + 5)]) := by
        simp [FK.setR, WS0, FK.atOf]; omega
      refine At.region ?_
      refine L.mv rfl rfl ?_
      refine L.mv rfl rfl ?_
      refine L.pure rfl (ev_add (r := ((now + 5 : Nat) : Int)) rfl rfl (by rw [mu64]; omega)) ?_
      refine L.op rfl (o_call rfl rfl rfl hE (pset_does x 1000 (now + 5) hI0 (by omega) (by show (0 : Nat) < _; omega) (by show (0 : Nat) ≤ _; omega)) (Ent.refl _) ?_)
      rintro v m ⟨rfl, S1, hI1, hn1, hs1, hk1, rfl⟩
      refine At.app1 ?_
      rw [hR5] at hk1
      replace hn1 : S1.now = now := hn1
      replace hs1 : S1.seq ≤ 1 := hs1
      have hl1 : S1.tms.length = 1 := by
        have := congrArg List.length hk1
        simpa using this
      refine L.as rfl rfl ?_
      refine L.nil ?_
      refine At.then ?_
      refine At.seq ?_
      refine At.region ?_
      refine L.mv rfl rfl ?_
      refine L.op rfl (o_call rfl rfl rfl hE (pcancel_does x 1000 hI1 (by omega)) (Ent.refl _) ?_)
      rintro v m ⟨rfl, S2, hI2, hn2, hs2, hk2, rfl⟩
      refine At.app1 ?_
      have hR6 : FK.cancelR (S1.tms.map FK.kd) 1000 = (0, []) := by
        rw [hk1]; simp [FK.cancelR]
      rw [hR6] at hk2
      replace hk2 : S2.tms.map FK.kd = [] := hk2
      refine L.as rfl rfl ?_
      refine L.nil ?_
      refine At.then ?_
      refine At.seq ?_
      refine At.seq ?_
      refine At.region ?_
      refine L.mv rfl rfl ?_
      refine L.pure rfl (ev_neq (r := false) rfl rfl (by rw [hR5]; rfl)) ?_
      refine L.mv rfl rfl ?_
      refine L.on rfl rfl rfl (L.vala rfl (ev_move rfl) (fun _ _ => trivial) ?_)
      refine L.on rfl rfl rfl (L.vala rfl (ev_neq (r := false) rfl rfl (by rw [hR6]; rfl)) (fun _ _ => trivial) ?_)
      refine L.pure rfl (ev_pick rfl rfl rfl) ?_
      refine L.nil ?_
      refine At.then ?_
      refine At.condF rfl ?_
      refine At.skip ?_
      refine At.then ?_
      refine At.seq ?_
      refine At.region ?_
      refine L.mv rfl rfl ?_
      refine L.pure rfl (ev_lenS rfl rfl) ?_
      refine L.op rfl (o_make rfl rfl infoU64 rfl rfl (by omega) (by omega) fun bd => ?_)
      rw [wcN_zero]
      refine L.as rfl rfl ?_
      refine L.nil ?_
      refine At.then ?_
      refine At.seq ?_
      refine At.region ?_
      refine L.mv rfl rfl ?_
      refine L.pure rfl (ev_lenS rfl rfl) ?_
      refine L.op rfl (o_make rfl rfl infoBoo rfl rfl (by omega) (by omega) fun bl => ?_)
      rw [wcN_zero, ← hn]
      refine L.as rfl rfl ?_
      refine L.nil ?_
      refine At.then ?_
      refine At.seq ?_
      refine At.seq ?_
      refine At.region ?_
      refine L.as rfl rfl ?_
      refine L.nil ?_
      refine At.then ?_
      refine At.block ?_
      refine At.loop (X := Nat × FK.WS × (Nat → Nat)) (fun p => [(15, .int .i64 (p.1 : Nat)), (0, .slice A0 n c0), (1, .slice A1 l1.length c1), (2, .slice A2 l2.length c2), (9, .int .u64 now), (10, ptr x), (13, .slice (some ⟨bd, 0, none⟩) n n), (14, .slice (some ⟨bl, 0, none⟩) n n)]) (fun p => blk bl 4 (wcN n fun k => .bool (decide (k < p.1))) :: blk bd 25 (wcN n fun k => .int .u64 (p.2.2 k)) :: fkw x p.2.1 :: [SL.old E w0]) (fun p => p.1 ≤ n ∧ FK.Inv p.2.1 [] ∧ p.2.1.now = now ∧ p.2.1.seq ≤ p.1 + 1 ∧ p.2.1.tms.map FK.kd = FK.live p.1 p.2.2 (fun _ => true) ∧ ∀ k, k < p.1 → now < p.2.2 k ∧ p.2.2 k ≤ now + 1099511627776) (fun p => n - p.1) (0, S2, fun _ => 0) ⟨Nat.zero_le _, hI2, hn2.trans hn1, (by show S2.seq ≤ 0 + 1; omega), hk2, fun k hk => by omega⟩ ⟨rfl, by rw [hn]; rfl, rfl, rfl, rfl, rfl, by rw [hn]; rfl, by rw [hn]; rfl, trivial⟩ (by
  have e : (fun k => Value.bool (decide (k < 0))) = fun _ => Value.bool false := by funext k; simp
  show Ent _ (blk bl 4 (wcN n fun k => .bool (decide (k < 0))) :: blk bd 25 (wcN n fun _ => .int .u64 0) :: fkw x S2 :: [SL.old E w0])
  rw [e]
  exact Ent.refl _) ?_
      rintro ⟨i, S, dl⟩ ⟨hi, hI, hSn, hSs, hk, hdl⟩
      replace hi : i ≤ n := hi
      replace hI : FK.Inv S [] := hI
      replace hSn : S.now = now := hSn
      replace hSs : S.seq ≤ i + 1 := hSs
      replace hk : S.tms.map FK.kd = FK.live i dl (fun _ => true) := hk
      replace hdl : ∀ k, k < i → now < dl k ∧ dl k ≤ now + 1099511627776 := hdl
      have hSl : S.tms.length ≤ i := by
        have h1 := congrArg List.length hk
        rw [List.length_map] at h1
        have := FK.live_len i dl (fun _ => true)
        omega
      refine At.seq ?_
      refine At.seq ?_
      refine At.region ?_
      refine L.mv rfl rfl ?_
      refine L.mv rfl rfl ?_
      refine L.pure rfl (ev_lenS rfl rfl) ?_
      refine L.pure rfl (ev_lss rfl rfl rfl) ?_
      refine L.nil ?_
      refine At.then ?_
      refine At.condD rfl (fun c68 => ?_) (fun c68 => ?_)
      ·
        have hlt : i < n := by omega
        obtain ⟨xi, hxi⟩ : ∃ xi, l0[i]? = some xi := ⟨l0[i]'(by omega), by simp⟩
        obtain ⟨b, off, rfl, hb, hcell⟩ := hN0.cells (by omega)
        refine At.skip ?_
        refine At.then ?_
        refine At.seq ?_
        refine At.block ?_
        refine At.seq ?_
        refine At.region ?_
        refine L.mv rfl rfl ?_
        refine L.mv rfl rfl ?_
        refine L.mv rfl rfl ?_
        refine L.pure rfl (ev_add (r := ((now + 1 : Nat) : Int)) rfl rfl (by rw [mu64]; omega)) ?_
        refine L.mv rfl rfl ?_
        refine L.mv rfl rfl ?_
        refine L.pure rfl (ev_ixN (z := 1) rfl rfl rfl rfl hlt) ?_
        refine L.val rfl (ev_load1 (v := .int .i64 xi) rfl rfl) (intsOld (.tail (.tail (.tail (.head)))) h0 hcell hxi) ?_
        refine L.op rfl (o_call rfl rfl rfl hE (kpick xi 1099511627776 (hN0.rng _ (List.mem_of_getElem? hxi)) (by omega) (by omega)) (Ent.refl _) ?_)
        rintro v m ⟨k1, rfl, ⟨h3, h4⟩, rfl⟩
        refine At.app0 ?_
        obtain ⟨pk, rfl⟩ : ∃ q : Nat, k1 = q := ⟨k1.toNat, by omega⟩
        obtain ⟨due, hdue⟩ : ∃ due, due = now + 1 + pk := ⟨_, rfl⟩
        have hat : FK.atOf now due = due := by unfold FK.atOf; omega
        have hR : FK.setR S.now (S.tms.map FK.kd) i due = (0, FK.live i dl (fun _ => true) ++ [((i : Int), due)]) := by
          rw [FK.setR, hk, hSn, if_neg, if_neg, hat]
          · have := FK.live_len i dl (fun _ => true)
            omega
          · intro hm
            obtain ⟨p, hp, e⟩ := List.mem_map.1 hm
            obtain ⟨i', hi', _, rfl⟩ := FK.mem_live.1 hp
            simp at e
            omega
        refine L.pure rfl (ev_conv (r := (pk : Int)) rfl rfl rfl (by rw [mu64]; omega)) ?_
        refine L.pure rfl (ev_add (r := (due : Int)) rfl rfl (by rw [mu64]; omega)) ?_
        refine L.pure rfl (ev_ixN (z := 1) rfl rfl rfl rfl hlt) ?_
        refine L.st rfl rfl rfl rfl (by rw [wcN_size]; omega) ?_
        rw [wcN_put, wcN_nat]
        refine L.nil ?_
        refine At.then ?_
        refine At.seq ?_
        refine At.region ?_
        refine L.mv rfl rfl ?_
        refine L.mv rfl rfl ?_
        refine L.pure rfl (ev_ixN (z := 1) rfl rfl rfl rfl hlt) ?_
        refine L.st rfl rfl rfl rfl (by rw [wcN_size]; omega) ?_
        rw [wcN_put]
        refine L.nil ?_
        refine At.then ?_
        refine At.seq ?_
        refine At.region ?_
        refine L.mv rfl rfl ?_
        refine L.mv rfl rfl ?_
        refine L.mv rfl rfl ?_
        refine L.mv rfl rfl ?_
        refine L.pure rfl (ev_ixN (z := 1) rfl rfl rfl rfl hlt) ?_
        refine L.val rfl (ev_load1 (v := .int .u64 due) rfl rfl) (cellIs (by rw [wcN_get _ hlt, upd_at])) ?_
        refine L.op rfl (o_call rfl rfl rfl hE (pset_does x i due hI (by omega) (by omega) (by omega)) (Ent.sel (.tail (.tail (.head)))) ?_)
        rintro v m ⟨rfl, S', hI', hn', hs', hk', rfl⟩
        refine At.app1 ?_
        refine L.as rfl rfl ?_
        refine L.nil ?_
        refine At.then ?_
        refine At.seq ?_
        refine At.region ?_
        refine L.mv rfl rfl ?_
        refine L.pure rfl (ev_neq (r := false) rfl rfl (by rw [hR]; rfl)) ?_
        refine L.nil ?_
        refine At.then ?_
        refine At.condF rfl ?_
        refine At.skip ?_
        refine At.inBlock (At.then ?_)
        refine At.region ?_
        refine L.mv rfl rfl ?_
        refine L.pure rfl (ev_add (r := ((i + 1 : Nat) : Int)) rfl rfl (by rw [w64 (by omega)]; omega)) ?_
        refine L.as rfl rfl ?_
        refine L.nil ?_
        exact At.round (i + 1, S', upd dl i due) ⟨hlt, hI', hn'.trans hSn, (by show S'.seq ≤ i + 1 + 1; omega), (by
          show S'.tms.map FK.kd = FK.live (i + 1) (upd dl i due) (fun _ => true)
          rw [hk', hR, FK.live_succ, upd_at]
          show FK.live i dl _ ++ _ = _
          congr 1
          exact FK.live_congr (fun k hk => (upd_off _ _ (by omega)).symm) fun _ _ => rfl), fun k hk => by
          show now < upd dl i due k ∧ upd dl i due k ≤ _
          by_cases h : k = i
          · subst h; rw [upd_at]; omega
          · rw [upd_off _ _ h]; exact hdl k (by replace hk : k < i + 1 := hk; omega)⟩ (by show _ - (i + 1) < _ - i; omega) ⟨rfl, rfl, rfl, rfl, rfl, rfl, rfl, rfl, trivial⟩ (by
          have e : wcN n (upd (fun k => Value.bool (decide (k < i))) i (.bool true)) = wcN n fun k => .bool (decide (k < i + 1)) := wcN_congr fun k _ => by
            by_cases h : k = i
            · subst h; rw [upd_at]; simp
            · rw [upd_off _ _ h]; congr 1; simp; omega
          rw [e]
          exact (Ent.sel3 (.tail (.head)) (.tail (.head)) .head))
      ·
        obtain rfl : i = n := by omega
        have hli : ∀ k, k < i → (fun k => decide (k < i)) k = (fun _ => true) k := fun k hk => by simp [hk]
        rw [← FK.live_congr (fun _ _ => rfl) hli] at hk
        have hi100 : i ≤ 100 := by omega
        refine At.exit ?_
        refine At.thenExit (At.roundExit (At.inBlockHit (At.then ?_)))
        refine At.seq ?_
        refine At.seq ?_
        refine At.region ?_
        refine L.as rfl rfl ?_
        refine L.nil ?_
        refine At.then ?_
        refine At.block ?_
        refine At.loop (X := Nat × FK.WS × (Nat → Bool)) (fun p => [(16, .int .i64 (p.1 : Nat)), (0, .slice A0 i c0), (1, .slice A1 l1.length c1), (2, .slice A2 l2.length c2), (9, .int .u64 now), (10, ptr x), (13, .slice (some ⟨bd, 0, none⟩) i i), (14, .slice (some ⟨bl, 0, none⟩) i i)]) (fun p => blk bl 4 (wcN i fun k => .bool (p.2.2 k)) :: blk bd 25 (wcN i fun k => .int .u64 (dl k)) :: fkw x p.2.1 :: [SL.old E w0]) (fun p => p.1 ≤ l1.length ∧ FK.Inv p.2.1 [] ∧ p.2.1.now = now ∧ p.2.1.seq ≤ 101 ∧ p.2.1.tms.map FK.kd = FK.live i dl p.2.2) (fun p => l1.length - p.1) (0, S, fun k => decide (k < i)) ⟨Nat.zero_le _, hI, hSn, (by show S.seq ≤ 101; omega), hk⟩ ⟨rfl, rfl, rfl, rfl, rfl, rfl, rfl, rfl, trivial⟩ (Ent.refl _) ?_
        rintro ⟨j, T, ll⟩ ⟨hj, hTI, hTn, hTs, hTk⟩
        replace hj : j ≤ l1.length := hj
        replace hTI : FK.Inv T [] := hTI
        replace hTn : T.now = now := hTn
        replace hTs : T.seq ≤ 101 := hTs
        replace hTk : T.tms.map FK.kd = FK.live i dl ll := hTk
        have hTl : T.tms.length ≤ i := by
          have h1 := congrArg List.length hTk
          rw [List.length_map] at h1
          have := FK.live_len i dl ll
          omega
        refine At.seq ?_
        refine At.seq ?_
        refine At.region ?_
        refine L.mv rfl rfl ?_
        refine L.mv rfl rfl ?_
        refine L.pure rfl (ev_lenS rfl rfl) ?_
        refine L.bool rfl (ev_lss rfl rfl rfl) (fun _ _ => trivial) fun c98 e98 => ?_
        refine L.mv rfl rfl ?_
        refine L.abs c98 (by rfl) ?_
        refine L.g rfl rfl (fun _ => rfl) (ev_move rfl) (fun _ _ => trivial) ?_
        refine L.abs c98 (by rfl) ?_
        refine L.g rfl rfl (fun _ => rfl) (ev_lss rfl rfl rfl) (fun _ _ => trivial) ?_
        refine L.bool rfl (ev_pickAnd rfl rfl rfl) (fun _ _ => trivial) fun c102 e102 => ?_
        refine L.mv rfl rfl ?_
        refine L.abs c102 (by rfl) ?_
        refine L.g rfl rfl (fun _ => rfl) (ev_move rfl) (fun _ _ => trivial) ?_
        refine L.abs c102 (by rfl) ?_
        refine L.g rfl rfl (fun _ => rfl) (ev_lenS rfl rfl) (fun _ _ => trivial) ?_
        refine L.abs c102 (by rfl) ?_
        refine L.g rfl rfl (fun _ => rfl) (ev_gtr rfl rfl rfl) (fun _ _ => trivial) ?_
        refine L.bool rfl (ev_pickAnd rfl rfl rfl) (fun _ _ => trivial) fun c107 e107 => ?_
        refine L.nil ?_
        refine At.then ?_
        refine At.cond rfl (fun h107 => ?_) (fun h107 => ?_)
        ·
          rw [e107, e102, e98] at h107
          simp only [Bool.and_eq_true, decide_eq_true_eq] at h107
          have hlt : j < l1.length := by omega
          have hi0 : 0 < i := by omega
          obtain ⟨xj, hxj⟩ : ∃ xj, l1[j]? = some xj := ⟨l1[j]'hlt, by simp⟩
          obtain ⟨b, off, rfl, hb, hcell⟩ := hN1.cells (by omega)
          refine At.skip ?_
          refine At.then ?_
          refine At.seq ?_
          refine At.block ?_
          refine At.seq ?_
          refine At.region ?_
          refine L.mv rfl rfl ?_
          refine L.mv rfl rfl ?_
          refine L.pure rfl (ev_ixN (z := 1) rfl rfl rfl rfl hlt) ?_
          refine L.val rfl (ev_load1 (v := .int .i64 xj) rfl rfl) (intsOld (.tail (.tail (.tail (.head)))) h0 hcell hxj) ?_
          refine L.mv rfl rfl ?_
          refine L.pure rfl (ev_lenS rfl rfl) ?_
          refine L.op rfl (o_call rfl rfl rfl hE (kpick xj i (hN1.rng _ (List.mem_of_getElem? hxj)) hi0 (by omega)) (Ent.refl _) ?_)
          rintro v m ⟨k1, rfl, ⟨h3, h4⟩, rfl⟩
          refine At.app0 ?_
          obtain ⟨k, rfl⟩ : ∃ q : Nat, k1 = q := ⟨k1.toNat, by omega⟩
          have hki : k < i := by omega
          have hC := FK.live_cancel (dl := dl) (ll := ll) hki
          rw [← hTk] at hC
          refine L.as rfl rfl ?_
          refine L.nil ?_
          refine At.then ?_
          refine At.seq ?_
          refine At.region ?_
          refine L.mv rfl rfl ?_
          refine L.mv rfl rfl ?_
          refine L.op rfl (o_call rfl rfl rfl hE (pcancel_does x k hTI (by omega)) (Ent.sel (.tail (.tail (.head)))) ?_)
          rintro v m ⟨rfl, T', hI', hn', hs', hk', rfl⟩
          refine At.app1 ?_
          refine L.as rfl rfl ?_
          refine L.nil ?_
          refine At.then ?_
          refine At.seq ?_
          refine At.seq ?_
          refine At.region ?_
          refine L.mv rfl rfl ?_
          refine L.pure rfl (ev_eql (r := ll k) rfl rfl (by rw [hC]; cases ll k <;> rfl)) ?_
          refine L.mv rfl rfl ?_
          refine L.mv rfl rfl ?_
          refine L.pure rfl (ev_ixN (z := 1) rfl rfl rfl rfl hki) ?_
          refine L.val rfl (ev_load1 (v := .bool (ll k)) rfl rfl) (cellIs (wcN_get _ hki)) ?_
          refine L.pure rfl (ev_neqB (r := false) rfl rfl rfl (by simp)) ?_
          refine L.nil ?_
          refine At.then ?_
          refine At.condF rfl ?_
          refine At.skip ?_
          refine At.then ?_
          refine At.region ?_
          refine L.mv rfl rfl ?_
          refine L.mv rfl rfl ?_
          refine L.pure rfl (ev_ixN (z := 1) rfl rfl rfl rfl hki) ?_
          refine L.st rfl rfl rfl rfl (by rw [wcN_size]; omega) ?_
          rw [wcN_put, wcN_boo]
          refine L.nil ?_
          refine At.inBlock (At.then ?_)
          refine At.region ?_
          refine L.mv rfl rfl ?_
          refine L.pure rfl (ev_add (r := ((j + 1 : Nat) : Int)) rfl rfl (by rw [w64 (by omega)]; omega)) ?_
          refine L.as rfl rfl ?_
          refine L.nil ?_
          exact At.round (j + 1, T', upd ll k false) ⟨hlt, hI', hn'.trans hTn, (by show T'.seq ≤ 101; omega), (by show T'.tms.map FK.kd = _; rw [hk', hC])⟩ (by show _ - (j + 1) < _ - j; omega) ⟨rfl, rfl, rfl, rfl, rfl, rfl, rfl, rfl, trivial⟩ (Ent.sel3 .head (.tail (.head)) .head)
        ·
          clear h107 e107 e102 e98
          have hdl2 : ∀ k, k < i → dl k ≤ 2199023255552 := fun k hk => by have := hdl k hk; omega
          refine At.exit ?_
          refine At.thenExit (At.roundExit (At.inBlockHit (At.then ?_)))
          refine At.seq ?_
          refine At.seq ?_
          refine At.region ?_
          refine L.as rfl rfl ?_
          refine L.nil ?_
          refine At.then ?_
          refine At.block ?_
          refine At.loop (X := Nat × FK.WS × (Nat → Bool) × Nat) (fun p => [(18, .int .i64 (p.1 : Nat)), (0, .slice A0 i c0), (2, .slice A2 l2.length c2), (9, .int .u64 p.2.2.2), (10, ptr x), (13, .slice (some ⟨bd, 0, none⟩) i i), (14, .slice (some ⟨bl, 0, none⟩) i i)]) (fun p => blk bl 4 (wcN i fun k => .bool (p.2.2.1 k)) :: blk bd 25 (wcN i fun k => .int .u64 (dl k)) :: fkw x p.2.1 :: [SL.old E w0]) (fun p => p.1 ≤ l2.length + 1 ∧ FK.Inv p.2.1 [] ∧ p.2.1.now = p.2.2.2 ∧ p.2.1.seq ≤ 101 ∧ p.2.1.tms.map FK.kd = FK.live i dl p.2.2.1 ∧ p.2.2.2 ≤ (p.1 + 2) * 2199023255552 ∧ (p.1 = l2.length + 1 → FK.live i dl p.2.2.1 = [])) (fun p => l2.length + 1 - p.1) (0, T, ll, now) ⟨Nat.zero_le _, hTI, hTn, hTs, hTk, (by show now ≤ (0 + 2) * _; omega), (fun h => by replace h : 0 = l2.length + 1 := h; omega)⟩ ⟨rfl, rfl, rfl, rfl, rfl, rfl, rfl, trivial⟩ (Ent.refl _) ?_
          clear hI hSn hSs hk hdl hSl hTI hTn hTs hTk hTl hj j T ll hli
          rintro ⟨j, T, ll, nw⟩ ⟨hj, hTI, hTn, hTs, hTk, hnw, hend⟩
          replace hj : j ≤ l2.length + 1 := hj
          replace hTI : FK.Inv T [] := hTI
          replace hTn : T.now = nw := hTn
          replace hTs : T.seq ≤ 101 := hTs
          replace hTk : T.tms.map FK.kd = FK.live i dl ll := hTk
          replace hnw : nw ≤ (j + 2) * 2199023255552 := hnw
          replace hend : j = l2.length + 1 → FK.live i dl ll = [] := hend
          have hTl : T.tms.length ≤ i := by
            have h1 := congrArg List.length hTk
            rw [List.length_map] at h1
            have := FK.live_len i dl ll
            omega
          refine At.seq ?_
          refine At.seq ?_
          refine At.region ?_
          refine L.mv rfl rfl ?_
          refine L.mv rfl rfl ?_
          refine L.pure rfl (ev_lenS rfl rfl) ?_
          refine L.pure rfl (ev_leq rfl rfl rfl) ?_
          refine L.nil ?_
          refine At.then ?_
          refine At.condD rfl (fun c133 => ?_) (fun c133 => ?_)
          ·
            have hjl : j ≤ l2.length := by omega
            have hnw2 : nw ≤ 4503599627370496 := by
              have := Nat.mul_le_mul_right 2199023255552 (show j + 2 ≤ 202 by omega)
              omega
            refine At.skip ?_
            refine At.then ?_
            refine At.seq ?_
            refine At.block ?_
            refine At.seq ?_
            refine At.region ?_
            refine L.as rfl rfl ?_
            refine L.nil ?_
            refine At.then ?_
            refine At.seq (At.cut (X := Nat) (fun y => [(18, .int .i64 (j : Nat)), (0, .slice A0 i c0), (2, .slice A2 l2.length c2), (9, .int .u64 nw), (10, ptr x), (13, .slice (some ⟨bd, 0, none⟩) i i), (14, .slice (some ⟨bl, 0, none⟩) i i), (19, .int .u64 y)]) (fun _ => blk bl 4 (wcN i fun k => .bool (ll k)) :: blk bd 25 (wcN i fun k => .int .u64 (dl k)) :: fkw x T :: [SL.old E w0]) (fun y => y ≤ 2199023255552 ∧ (j = l2.length → y = 2199023255552)) ?_ ?_)
            ·
              refine At.seq ?_
              refine At.region ?_
              refine L.mv rfl rfl ?_
              refine L.mv rfl rfl ?_
              refine L.pure rfl (ev_lenS rfl rfl) ?_
              refine L.pure rfl (ev_lss rfl rfl rfl) ?_
              refine L.nil ?_
              refine At.then ?_
              refine At.condD rfl (fun c139 => ?_) (fun c139 => ?_)
              ·
                have hlt : j < l2.length := by omega
                obtain ⟨xj, hxj⟩ : ∃ xj, l2[j]? = some xj := ⟨l2[j]'hlt, by simp⟩
                obtain ⟨b, off, rfl, hb, hcell⟩ := hN2.cells (by omega)
                refine At.region ?_
                refine L.mv rfl rfl ?_
                refine L.mv rfl rfl ?_
                refine L.pure rfl (ev_ixN (z := 1) rfl rfl rfl rfl hlt) ?_
                refine L.val rfl (ev_load1 (v := .int .i64 xj) rfl rfl) (intsOld (.tail (.tail (.tail (.head)))) h0 hcell hxj) ?_
                refine L.op rfl (o_call rfl rfl rfl hE (kpick xj 1099511627776 (hN2.rng _ (List.mem_of_getElem? hxj)) (by omega) (by omega)) (Ent.refl _) ?_)
                rintro v m ⟨k1, rfl, ⟨h3, h4⟩, rfl⟩
                refine At.app0 ?_
                obtain ⟨pk, rfl⟩ : ∃ q : Nat, k1 = q := ⟨k1.toNat, by omega⟩
                refine L.pure rfl (ev_conv (r := (pk : Int)) rfl rfl rfl (by rw [mu64]; omega)) ?_
                refine L.as rfl rfl ?_
                refine L.nil ?_
                exact At.meet pk ⟨by omega, fun h => by omega⟩ ⟨rfl, rfl, rfl, rfl, rfl, rfl, rfl, rfl, trivial⟩ (Ent.refl _)
              ·
                refine At.skip ?_
                exact At.meet 2199023255552 ⟨by omega, fun _ => rfl⟩ ⟨rfl, rfl, rfl, rfl, rfl, rfl, rfl, rfl, trivial⟩ (Ent.refl _)
            rintro step ⟨hst1, hst2⟩
            refine At.seq ?_
            obtain ⟨upto, hup⟩ : ∃ u, u = nw + step := ⟨_, rfl⟩
            have hto : toOf T.now step = upto := by rw [toOf, hTn, if_neg (by omega)]; omega
            refine At.region ?_
            refine L.mv rfl rfl ?_
            refine L.mv rfl rfl ?_
            refine L.pure rfl (ev_add (r := (upto : Int)) rfl rfl (by rw [mu64]; omega)) ?_
            refine L.as rfl rfl ?_
            refine L.nil ?_
            refine At.then ?_
            refine At.seq ?_
            refine At.region ?_
            refine L.mv rfl rfl ?_
            refine L.mv rfl rfl ?_
            refine L.op rfl (o_call rfl rfl rfl hE (fadvance_does x step hTI (by omega) (by omega) (by omega)) (Ent.sel (.tail (.tail (.head)))) ?_)
            rintro v m ⟨o, T', hP, hI', hn', hs', hv1, rfl⟩
            refine At.app2 ?_
            rw [hto] at hP hn'
            rw [hTk] at hP
            have hoL : o.length ≤ 100 := by have := hP.len; have := FK.live_len i dl ll; omega
            have hge : ∀ p ∈ FK.live i dl ll, nw ≤ p.2 := fun p hp => by
              rw [← hTk] at hp
              obtain ⟨u, hu, rfl⟩ := List.mem_map.1 hp
              have := (hTI.due u hu).1
              rw [hTn] at this
              exact this
            refine At.formRow .head ?_
            rintro Ao co rfl hnilo hformo _ _ _
            refine L.as rfl rfl ?_
            refine L.nil ?_
            refine At.then ?_
            refine At.seq ?_
            refine At.region ?_
            refine L.mv rfl rfl ?_
            refine L.as rfl rfl ?_
            refine L.nil ?_
            refine At.then ?_
            refine At.seq ?_
            refine At.seq ?_
            refine At.region ?_
            refine L.as rfl rfl ?_
            refine L.nil ?_
            refine At.then ?_
            refine At.block ?_
            refine At.loop (X := Nat × (Nat → Bool) × Nat) (fun p => [(23, .int .i64 (p.1 : Nat)), (22, .int .u64 p.2.2), (18, .int .i64 (j : Nat)), (0, .slice A0 i c0), (2, .slice A2 l2.length c2), (10, ptr x), (13, .slice (some ⟨bd, 0, none⟩) i i), (14, .slice (some ⟨bl, 0, none⟩) i i), (20, .int .u64 upto), (21, .slice Ao o.length co)]) (fun p => row 63 2 (.slice Ao o.length co) o.length (firedV o) :: blk bl 4 (wcN i fun k => .bool (p.2.1 k)) :: blk bd 25 (wcN i fun k => .int .u64 (dl k)) :: fkw x T' :: [SL.old E w0]) (fun p => p.1 ≤ o.length ∧ FK.Pops upto (FK.live i dl p.2.1) (o.drop p.1) (T'.tms.map FK.kd) ∧ ∀ y ∈ o.drop p.1, p.2.2 ≤ y.2) (fun p => o.length - p.1) (0, ll, nw) ⟨Nat.zero_le _, by simpa using hP, fun y hy => hge y (hP.perm.mem_iff.2 (List.mem_append_left _ (by simpa using hy)))⟩ ⟨rfl, rfl, rfl, rfl, rfl, rfl, rfl, rfl, rfl, rfl, trivial⟩ (Ent.cons (Ent.sel3 (.tail (.head)) (.tail (.head)) .head)) ?_
            rintro ⟨q, ml, last⟩ ⟨hq, hPq, hlast⟩
            replace hq : q ≤ o.length := hq
            replace hPq : FK.Pops upto (FK.live i dl ml) (o.drop q) (T'.tms.map FK.kd) := hPq
            replace hlast : ∀ y ∈ o.drop q, last ≤ y.2 := hlast
            refine At.seq ?_
            refine At.seq ?_
            refine At.region ?_
            refine L.mv rfl rfl ?_
            refine L.mv rfl rfl ?_
            refine L.pure rfl (ev_lenS rfl rfl) ?_
            refine L.pure rfl (ev_lss rfl rfl rfl) ?_
            refine L.nil ?_
            refine At.then ?_
            refine At.condD rfl (fun c156 => ?_) (fun c156 => ?_)
            ·
              have hlt : q < o.length := by omega
              obtain ⟨xo, hxo⟩ : ∃ xo, o[q]? = some xo := ⟨o[q], by simp [hlt]⟩
              have hdrop : o.drop q = xo :: o.drop (q + 1) := by
                rw [List.drop_eq_getElem_cons hlt]
                rw [List.getElem?_eq_getElem hlt] at hxo
                injection hxo with hxo
                rw [hxo]
              rw [hdrop] at hPq hlast
              have hso := hPq.out.2.2
              obtain ⟨L1, hm, hxup, hP1⟩ := hPq.head
              obtain ⟨k, hki, hml, rfl, rfl⟩ := FK.live_min hm
              have hlk : last ≤ dl k := hlast ((k : Int), dl k) (by simp)
              replace hxup : dl k ≤ upto := hxup
              have hcell := fired_at hxo
              obtain ⟨g, rfl⟩ : ∃ g, Ao = some ⟨g, 0, none⟩ := by
                cases Ao with
                | none => have := (hnilo rfl).1; omega
                | some ad => obtain ⟨g, rfl⟩ := hformo ad rfl; exact ⟨g, rfl⟩
              refine At.skip ?_
              refine At.then ?_
              refine At.seq ?_
              refine At.block ?_
              refine At.seq ?_
              refine At.region ?_
              refine L.mv rfl rfl ?_
              refine L.mv rfl rfl ?_
              refine L.pure rfl (ev_ixN (z := 2) rfl rfl rfl rfl hlt) ?_
              refine L.fa 0 rfl rfl rfl ?_
              refine L.val rfl (ev_load1 (v := .int .i64 k) rfl rfl) (cellIn .head (by rw [Nat.zero_add]; exact hcell 0 _ rfl)) ?_
              refine L.as rfl rfl ?_
              refine L.nil ?_
              refine At.then ?_
              refine At.seq ?_
              refine At.seq ?_
              refine Dr.start rfl ?_
              refine Dr.p 0 rfl rfl (by kernel_rfl) (ev_move rfl) ?_
              refine Dr.p 1 rfl rfl (by kernel_rfl) (ev_lss (r := false) rfl rfl (by rw [decide_eq_false_iff_not]; omega)) ?_
              refine Dr.p 2 rfl rfl (by kernel_rfl) (ev_move rfl) ?_
              refine Dr.gp 3 rfl rfl rfl rfl (by kernel_rfl) (ev_move rfl) ?_
              refine Dr.gp 4 rfl rfl rfl rfl (by kernel_rfl) (ev_move rfl) ?_
              refine Dr.gp 5 rfl rfl rfl rfl (by kernel_rfl) (ev_lenS rfl rfl) ?_
              refine Dr.gp 6 rfl rfl rfl rfl (by kernel_rfl) (ev_geq (r := false) rfl rfl (by rw [decide_eq_false_iff_not]; omega)) ?_
              refine Dr.p 7 rfl rfl (by kernel_rfl) (ev_pick rfl rfl rfl) ?_
              refine Dr.p 8 rfl rfl (by kernel_rfl) (ev_move rfl) ?_
              refine Dr.gp 9 rfl rfl rfl rfl (by kernel_rfl) (ev_move rfl) ?_
              refine Dr.gp 10 rfl rfl rfl rfl (by kernel_rfl) (ev_move rfl) ?_
              refine Dr.gp 11 rfl rfl rfl rfl (by kernel_rfl) (ev_ixN (z := 1) rfl rfl rfl rfl hki) ?_
              refine Dr.gl 12 rfl rfl rfl rfl (by kernel_rfl) (ev_load1 (v := .bool true) rfl rfl) (cellIs (by rw [wcN_get _ hki]; show some (Value.bool (ml k)) = _; rw [hml])) ?_
              refine Dr.gp 13 rfl rfl rfl rfl (by kernel_rfl) (ev_not (r := false) rfl rfl) ?_
              refine Dr.p 14 rfl rfl (by kernel_rfl) (ev_pick rfl rfl rfl) ?_
              refine Dr.p 15 rfl rfl (by kernel_rfl) (ev_move rfl) ?_
              refine Dr.gp 16 rfl rfl rfl rfl (by kernel_rfl) (ev_move rfl) ?_
              refine Dr.gp 17 rfl rfl rfl rfl (by kernel_rfl) (ev_move rfl) ?_
              refine Dr.gp 18 rfl rfl rfl rfl (by kernel_rfl) (ev_ixN (z := 2) rfl rfl rfl rfl hlt) ?_
              refine Dr.gp 19 rfl rfl rfl rfl (by kernel_rfl) (ev_field (off := 1) rfl rfl) ?_
              refine Dr.gl 20 rfl rfl rfl rfl (by kernel_rfl) (ev_load1 (v := .int .u64 (dl k)) rfl rfl) (cellIn .head (by rw [Nat.zero_add]; exact hcell 1 _ rfl)) ?_
              refine Dr.gp 21 rfl rfl rfl rfl (by kernel_rfl) (ev_move rfl) ?_
              refine Dr.gp 22 rfl rfl rfl rfl (by kernel_rfl) (ev_move rfl) ?_
              refine Dr.gp 23 rfl rfl rfl rfl (by kernel_rfl) (ev_ixN (z := 1) rfl rfl rfl rfl hki) ?_
              refine Dr.gl 24 rfl rfl rfl rfl (by kernel_rfl) (ev_load1 (v := .int .u64 (dl k)) rfl rfl) (cellIs (wcN_get _ hki)) ?_
              refine Dr.gp 25 rfl rfl rfl rfl (by kernel_rfl) (ev_neq (r := false) rfl rfl (by simp)) ?_
              refine Dr.p 26 rfl rfl (by kernel_rfl) (ev_pick rfl rfl rfl) ?_
              refine Dr.p 27 rfl rfl (by kernel_rfl) (ev_move rfl) ?_
              refine Dr.gp 28 rfl rfl rfl rfl (by kernel_rfl) (ev_move rfl) ?_
              refine Dr.gp 29 rfl rfl rfl rfl (by kernel_rfl) (ev_move rfl) ?_
              refine Dr.gp 30 rfl rfl rfl rfl (by kernel_rfl) (ev_ixN (z := 2) rfl rfl rfl rfl hlt) ?_
              refine Dr.gp 31 rfl rfl rfl rfl (by kernel_rfl) (ev_field (off := 1) rfl rfl) ?_
              refine Dr.gl 32 rfl rfl rfl rfl (by kernel_rfl) (ev_load1 (v := .int .u64 (dl k)) rfl rfl) (cellIn .head (by rw [Nat.zero_add]; exact hcell 1 _ rfl)) ?_
              refine Dr.gp 33 rfl rfl rfl rfl (by kernel_rfl) (ev_move rfl) ?_
              refine Dr.gp 34 rfl rfl rfl rfl (by kernel_rfl) (ev_gtr (r := false) rfl rfl (by rw [decide_eq_false_iff_not]; omega)) ?_
              refine Dr.p 35 rfl rfl (by kernel_rfl) (ev_pick rfl rfl rfl) ?_
              refine Dr.p 36 rfl rfl (by kernel_rfl) (ev_move rfl) ?_
              refine Dr.gp 37 rfl rfl rfl rfl (by kernel_rfl) (ev_move rfl) ?_
              refine Dr.gp 38 rfl rfl rfl rfl (by kernel_rfl) (ev_move rfl) ?_
              refine Dr.gp 39 rfl rfl rfl rfl (by kernel_rfl) (ev_ixN (z := 2) rfl rfl rfl rfl hlt) ?_
              refine Dr.gp 40 rfl rfl rfl rfl (by kernel_rfl) (ev_field (off := 1) rfl rfl) ?_
              refine Dr.gl 41 rfl rfl rfl rfl (by kernel_rfl) (ev_load1 (v := .int .u64 (dl k)) rfl rfl) (cellIn .head (by rw [Nat.zero_add]; exact hcell 1 _ rfl)) ?_
              refine Dr.gp 42 rfl rfl rfl rfl (by kernel_rfl) (ev_move rfl) ?_
              refine Dr.gp 43 rfl rfl rfl rfl (by kernel_rfl) (ev_lss (r := false) rfl rfl (by rw [decide_eq_false_iff_not]; show ¬ ((dl k : Int) < (last : Int)); omega)) ?_
              refine Dr.p 44 rfl rfl (by kernel_rfl) (ev_pick rfl rfl rfl) ?_
              refine Dr.done (by kernel_rfl) ?_
              refine At.then ?_
              refine At.condF rfl ?_
              refine At.skip ?_
              refine At.then ?_
              refine At.seq ?_
              refine At.region ?_
              refine L.mv rfl rfl ?_
              refine L.mv rfl rfl ?_
              refine L.pure rfl (ev_ixN (z := 1) rfl rfl rfl rfl hki) ?_
              refine L.st rfl rfl rfl rfl (by rw [wcN_size]; omega) ?_
              rw [wcN_put, wcN_boo]
              refine L.nil ?_
              refine At.then ?_
              refine At.region ?_
              refine L.mv rfl rfl ?_
              refine L.mv rfl rfl ?_
              refine L.pure rfl (ev_ixN (z := 2) rfl rfl rfl rfl hlt) ?_
              refine L.fa 1 rfl rfl rfl ?_
              refine L.val rfl (ev_load1 (v := .int .u64 (dl k)) rfl rfl) (cellIn (.tail (.head)) (by rw [Nat.zero_add]; exact hcell 1 _ rfl)) ?_
              refine L.as rfl rfl ?_
              refine L.nil ?_
              refine At.inBlock (At.then ?_)
              refine At.region ?_
              refine L.mv rfl rfl ?_
              refine L.pure rfl (ev_add (r := ((q + 1 : Nat) : Int)) rfl rfl (by rw [w64 (by omega)]; omega)) ?_
              refine L.as rfl rfl ?_
              refine L.nil ?_
              exact At.round (q + 1, upd ml k false, dl k) ⟨hlt, hP1, fun y hy => (List.pairwise_cons.1 hso).1 y hy⟩ (by show _ - (q + 1) < _ - q; omega) ⟨rfl, rfl, rfl, rfl, rfl, rfl, rfl, rfl, rfl, rfl, trivial⟩ (Ent.perm (List.Perm.swap _ _ _))
            ·
              obtain rfl : q = o.length := by omega
              rw [List.drop_length] at hPq
              obtain ⟨hfin, hall⟩ := hPq.nil'
              refine At.exit ?_
              refine At.thenExit (At.roundExit (At.inBlockHit (At.then ?_)))
              refine At.seq ?_
              refine At.seq ?_
              refine At.region ?_
              refine L.as rfl rfl ?_
              refine L.nil ?_
              refine At.then ?_
              refine At.block ?_
              refine At.loop (X := Nat) (fun p => [(25, .int .i64 (p : Nat)), (18, .int .i64 (j : Nat)), (0, .slice A0 i c0), (2, .slice A2 l2.length c2), (10, ptr x), (13, .slice (some ⟨bd, 0, none⟩) i i), (14, .slice (some ⟨bl, 0, none⟩) i i), (20, .int .u64 upto)]) (fun p => blk bl 4 (wcN i fun k => .bool (ml k)) :: blk bd 25 (wcN i fun k => .int .u64 (dl k)) :: fkw x T' :: [SL.old E w0]) (fun p => p ≤ i) (fun p => i - p) 0 (Nat.zero_le _) ⟨rfl, rfl, rfl, rfl, rfl, rfl, rfl, rfl, trivial⟩ Ent.drop ?_
              intro k hk5
              refine At.seq ?_
              refine At.seq ?_
              refine At.region ?_
              refine L.mv rfl rfl ?_
              refine L.mv rfl rfl ?_
              refine L.pure rfl (ev_lenS rfl rfl) ?_
              refine L.pure rfl (ev_lss rfl rfl rfl) ?_
              refine L.nil ?_
              refine At.then ?_
              refine At.condD rfl (fun c220 => ?_) (fun c220 => ?_)
              ·
                have hki : k < i := by omega
                refine At.skip ?_
                refine At.then ?_
                refine At.seq ?_
                refine At.block ?_
                refine At.seq ?_
                by_cases hml : ml k = true
                ·
                  have hdk := hall _ (FK.mem_live.2 ⟨k, hki, hml, rfl⟩)
                  replace hdk : upto < dl k := hdk
                  refine At.region ?_
                  refine L.mv rfl rfl ?_
                  refine L.mv rfl rfl ?_
                  refine L.pure rfl (ev_ixN (z := 1) rfl rfl rfl rfl hki) ?_
                  refine L.val rfl (ev_load1 (v := .bool true) rfl rfl) (cellIs (by rw [wcN_get _ hki]; show some (Value.bool (ml k)) = _; rw [hml])) ?_
                  refine L.mv rfl rfl ?_
                  refine L.on rfl rfl rfl (L.vala rfl (ev_move rfl) (fun _ _ => trivial) ?_)
                  refine L.on rfl rfl rfl (L.vala rfl (ev_move rfl) (fun _ _ => trivial) ?_)
                  refine L.on rfl rfl rfl (L.vala rfl (ev_ixN (z := 1) rfl rfl rfl rfl hki) (fun _ _ => trivial) ?_)
                  refine L.on rfl rfl rfl (L.vala rfl (ev_load1 (v := .int .u64 (dl k)) rfl rfl) (cellIs (wcN_get _ hki)) ?_)
                  refine L.on rfl rfl rfl (L.vala rfl (ev_move rfl) (fun _ _ => trivial) ?_)
                  refine L.on rfl rfl rfl (L.vala rfl (ev_leq (r := false) rfl rfl (by rw [decide_eq_false_iff_not]; omega)) (fun _ _ => trivial) ?_)
                  refine L.pure rfl (ev_pick rfl rfl rfl) ?_
                  refine L.nil ?_
                  refine At.then ?_
                  refine At.condF rfl ?_
                  refine At.skip ?_
                  refine At.inBlock (At.then ?_)
                  refine At.region ?_
                  refine L.mv rfl rfl ?_
                  refine L.pure rfl (ev_add (r := ((k + 1 : Nat) : Int)) rfl rfl (by rw [w64 (by omega)]; omega)) ?_
                  refine L.as rfl rfl ?_
                  refine L.nil ?_
                  exact At.round (k + 1) hki (by omega) ⟨rfl, rfl, rfl, rfl, rfl, rfl, rfl, rfl, trivial⟩ (Ent.refl _)
                ·
                  have hml' : ml k = false := by simpa using hml
                  refine At.region ?_
                  refine L.mv rfl rfl ?_
                  refine L.mv rfl rfl ?_
                  refine L.pure rfl (ev_ixN (z := 1) rfl rfl rfl rfl hki) ?_
                  refine L.val rfl (ev_load1 (v := .bool false) rfl rfl) (cellIs (by rw [wcN_get _ hki]; show some (Value.bool (ml k)) = _; rw [hml'])) ?_
                  refine L.mv rfl rfl ?_
                  refine L.off rfl rfl rfl rfl rfl rfl ?_
                  refine L.off rfl rfl rfl rfl rfl rfl ?_
                  refine L.off rfl rfl rfl rfl rfl rfl ?_
                  refine L.off rfl rfl rfl rfl rfl rfl ?_
                  refine L.off rfl rfl rfl rfl rfl rfl ?_
                  refine L.off rfl rfl rfl rfl rfl rfl ?_
                  refine L.pure rfl (ev_pick rfl rfl rfl) ?_
                  refine L.nil ?_
                  refine At.then ?_
                  refine At.condF rfl ?_
                  refine At.skip ?_
                  refine At.inBlock (At.then ?_)
                  refine At.region ?_
                  refine L.mv rfl rfl ?_
                  refine L.pure rfl (ev_add (r := ((k + 1 : Nat) : Int)) rfl rfl (by rw [w64 (by omega)]; omega)) ?_
                  refine L.as rfl rfl ?_
                  refine L.nil ?_
                  exact At.round (k + 1) hki (by omega) ⟨rfl, rfl, rfl, rfl, rfl, rfl, rfl, rfl, trivial⟩ (Ent.refl _)
              ·
                refine At.exit ?_
                refine At.thenExit (At.roundExit (At.inBlockHit (At.then ?_)))
                refine At.region ?_
                refine L.mv rfl rfl ?_
                refine L.as rfl rfl ?_
                refine L.nil ?_
                refine At.inBlock (At.then ?_)
                refine At.region ?_
                refine L.mv rfl rfl ?_
                refine L.pure rfl (ev_add (r := ((j + 1 : Nat) : Int)) rfl rfl (by rw [w64 (by omega)]; omega)) ?_
                refine L.as rfl rfl ?_
                refine L.nil ?_
                exact At.round (j + 1, T', ml, upto) ⟨by show j + 1 ≤ l2.length + 1; omega, hI', hn', (by show T'.seq ≤ 101; omega), hfin.symm, (by show upto ≤ (j + 1 + 2) * _; rw [show j + 1 + 2 = (j + 2) + 1 by omega, Nat.add_mul]; omega), fun h => (by
                  have hs := hst2 (by replace h : j + 1 = l2.length + 1 := h; omega)
                  show FK.live i dl ml = []
                  apply List.eq_nil_iff_forall_not_mem.2
                  intro p hp
                  have h1 := hall p hp
                  obtain ⟨k', hk', _, rfl⟩ := FK.mem_live.1 hp
                  have h2 := hdl2 k' hk'
                  replace h1 : upto < dl k' := h1
                  omega)⟩ (by show _ - (j + 1) < _ - j; omega) ⟨rfl, rfl, rfl, rfl, rfl, rfl, rfl, trivial⟩ (Ent.refl _)
          ·
            have hlv := hend (by omega)
            refine At.exit ?_
            refine At.thenExit (At.roundExit (At.inBlockHit (At.then ?_)))
            refine At.seq ?_
            refine At.region ?_
            refine L.mv rfl rfl ?_
            refine L.op rfl (o_call rfl rfl rfl hE (fnext_does x hTI (by omega)) (Ent.sel (.tail (.tail (.head)))) ?_)
            rintro v m ⟨hV, rfl⟩
            refine At.app1 ?_
            obtain rfl : v = .tuple #[.int .u64 0, .bool false] := by
              rw [hTk, hlv] at hV
              rcases hV with ⟨_, h⟩ | ⟨y, L', hm, _⟩
              · exact h
              · have := hm.mem; cases this
            refine L.mv rfl rfl ?_
            refine L.ex rfl rfl rfl ?_
            refine L.ex rfl rfl rfl ?_
            refine L.as rfl rfl ?_
            refine L.as rfl rfl ?_
            refine L.nil ?_
            refine At.then ?_
            refine At.seq ?_
            refine At.region ?_
            refine L.mv rfl rfl ?_
            refine L.pure rfl (ev_not (r := true) rfl rfl) ?_
            refine L.as rfl rfl ?_
            refine L.nil ?_
            refine At.then ?_
            refine At.ret ?_
            exact At.ret1 [] rfl rfl ⟨rfl, rfl⟩ (Ent.drop.trans (Ent.drop.trans Ent.drop))
  -- unused hints: ['nojoin r13', 'nojoin r21', 'nojoin r38', 'nojoin r46', 'nojoin r29']
end Go.Proofs.YtagkobkmaigfcaaDoor
