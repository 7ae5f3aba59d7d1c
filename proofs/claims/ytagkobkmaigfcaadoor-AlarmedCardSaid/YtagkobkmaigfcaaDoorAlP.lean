/- The document's wheel: Cancel, Next, Advance. -/
import Derived.Test.YtagkobkmaigfcaaDoorAlO
import Derived.Test.YtagkobkmaigfcaaDoorAlD
import Derived.Laws.StructEq
namespace Go.Proofs.YtagkobkmaigfcaaDoor
open Go Go.RowKit Go.SL
variable {G : Env → Prop}

set_option maxRecDepth 10000 in
set_option maxHeartbeats 1000000 in
theorem rcancel_miss {rs : List RT} (m now sq : Nat) (k : Int) (hl : rs.length ≤ 200) (hk : k ∉ rs.map fun x => x.1.1) :
    Does Tryd.prog G 40 [ptr m, .int .i64 k].toArray [rw m now rs sq] fun v r => v = .int .i64 8 ∧ r = [rw m now rs sq] := by
  refine Does.body Tryd.func40 rfl rfl fun E fr hE => ?_
  refine At.app1 ?_
  refine At.openRw .head fun A c hnil hform hc1 hc2 => ?_
  refine At.seq ?_
  refine At.region ?_
  refine L.as rfl rfl ?_
  refine L.nil ?_
  refine At.then ?_
  refine At.seq ?_
  refine At.seq ?_
  refine At.region ?_
  refine L.as rfl rfl ?_
  refine L.nil ?_
  refine At.then ?_
  refine At.block ?_
  refine At.loop (X := Nat) (fun i => [(5, .int .i64 (i : Nat)), (0, ptr m), (1, .int .i64 k)]) (fun _ => blk m 52 #[.int .u64 now, .slice A rs.length c, .int .i64 sq] :: rtAt (.slice A rs.length c) rs :: fr) (fun i => i ≤ rs.length) (fun i => rs.length - i) 0 (Nat.zero_le _) ⟨rfl, rfl, rfl, trivial⟩ (Ent.refl _) ?_
  rintro i hi
  refine At.seq ?_
  refine At.seq ?_
  refine At.region ?_
  refine L.mv rfl rfl ?_
  refine L.mv rfl rfl ?_
  refine L.nc rfl rfl ?_
  refine L.fa 1 rfl rfl rfl ?_
  refine L.ld rfl rfl rfl rfl ?_
  refine L.pure rfl (ev_lenS rfl rfl) ?_
  refine L.pure rfl (ev_lss rfl rfl rfl) ?_
  refine L.nil ?_
  refine At.then ?_
  refine At.condD rfl (fun c13 => ?_) (fun c13 => ?_)
  ·
    have hlt : i < rs.length := by omega
    obtain ⟨u, hu⟩ : ∃ u, rs[i]? = some u := ⟨rs[i], by simp [hlt]⟩
    have hne : u.1.1 ≠ k := fun e => hk (List.mem_map.2 ⟨u, List.mem_of_getElem? hu, e⟩)
    obtain ⟨g, rfl⟩ : ∃ g, A = some ⟨g, 0, none⟩ := by
      cases A with
      | none => have := (hnil rfl).1; omega
      | some ad => obtain ⟨g, rfl⟩ := hform ad rfl; exact ⟨g, rfl⟩
    refine At.skip ?_
    refine At.then ?_
    refine At.seq ?_
    refine At.block ?_
    refine At.seq ?_
    refine At.region ?_
    refine L.mv rfl rfl ?_
    refine L.nc rfl rfl ?_
    refine L.fa 1 rfl rfl rfl ?_
    refine L.ld rfl rfl rfl rfl ?_
    refine L.mv rfl rfl ?_
    refine L.pure rfl (ev_ixN (z := 3) rfl rfl rfl rfl (by omega)) ?_
    refine L.fa 0 rfl rfl rfl ?_
    refine L.val rfl (ev_load1 rfl rfl) (rtCell (k := 0) (.tail (.head)) hu rfl) ?_
    refine L.mv rfl rfl ?_
    refine L.pure rfl (ev_eql (r := false) rfl rfl (by rw [decide_eq_false_iff_not]; exact hne)) ?_
    refine L.nil ?_
    refine At.then ?_
    refine At.condF rfl ?_
    refine At.skip ?_
    refine At.inBlock (At.then ?_)
    refine At.region ?_
    refine L.mv rfl rfl ?_
    refine L.pure rfl (ev_add (r := ((i + 1 : Nat) : Int)) rfl rfl (by rw [w64 (by omega)]; omega)) ?_
    refine L.as rfl rfl ?_
    refine L.nil ?_
    exact At.round (i + 1) hlt (by omega) ⟨rfl, rfl, rfl, trivial⟩ (Ent.refl _)
  ·
    refine At.exit ?_
    refine At.thenExit (At.roundExit (At.inBlockHit (At.then ?_)))
    refine At.seq ?_
    refine At.region ?_
    refine L.as rfl rfl ?_
    refine L.nil ?_
    refine At.then ?_
    refine At.ret ?_
    exact At.ret1 [_] rfl rfl ⟨rfl, rfl⟩ Ent.closeRw
  -- unused hints: ['nojoin r3']

set_option maxRecDepth 10000 in
set_option maxHeartbeats 1000000 in
theorem rcancel_hit {rs : List RT} (m now sq : Nat) {i0 : Nat} {x : RT} (hl : rs.length ≤ 200) (hx : rs[i0]? = some x) (hf : ∀ j y, j < i0 → rs[j]? = some y → y.1.1 ≠ x.1.1) :
    Does Tryd.prog G 40 [ptr m, .int .i64 x.1.1].toArray [rw m now rs sq] fun v r => v = .int .i64 0 ∧ r = [rw m now (rs.eraseIdx i0) sq] := by
  have hi0 := (List.getElem?_eq_some_iff.1 hx).1
  refine Does.body Tryd.func40 rfl rfl fun E fr hE => ?_
  refine At.app1 ?_
  refine At.openRw .head fun A c hnil hform hc1 hc2 => ?_
  obtain ⟨g, rfl⟩ : ∃ g, A = some ⟨g, 0, none⟩ := by
    cases A with
    | none => have := (hnil rfl).1; omega
    | some ad => obtain ⟨g, rfl⟩ := hform ad rfl; exact ⟨g, rfl⟩
  refine At.seq ?_
  refine At.region ?_
  refine L.as rfl rfl ?_
  refine L.nil ?_
  refine At.then ?_
  refine At.seq ?_
  refine At.seq ?_
  refine At.region ?_
  refine L.as rfl rfl ?_
  refine L.nil ?_
  refine At.then ?_
  refine At.block ?_
  refine At.loop (X := Nat) (fun i => [(5, .int .i64 (i : Nat)), (0, ptr m), (1, .int .i64 x.1.1)]) (fun _ => blk m 52 #[.int .u64 now, .slice (some ⟨g, 0, none⟩) rs.length c, .int .i64 sq] :: rtAt (.slice (some ⟨g, 0, none⟩) rs.length c) rs :: fr) (fun i => i ≤ i0) (fun i => rs.length - i) 0 (Nat.zero_le _) ⟨rfl, rfl, rfl, trivial⟩ (Ent.refl _) ?_
  rintro i hi
  have hlt : i < rs.length := by omega
  obtain ⟨u, hu⟩ : ∃ u, rs[i]? = some u := ⟨rs[i], by simp [hlt]⟩
  refine At.seq ?_
  refine At.seq ?_
  refine At.region ?_
  refine L.mv rfl rfl ?_
  refine L.mv rfl rfl ?_
  refine L.nc rfl rfl ?_
  refine L.fa 1 rfl rfl rfl ?_
  refine L.ld rfl rfl rfl rfl ?_
  refine L.pure rfl (ev_lenS rfl rfl) ?_
  refine L.pure rfl (ev_lss (r := true) rfl rfl (by rw [decide_eq_true_iff]; omega)) ?_
  refine L.nil ?_
  refine At.then ?_
  refine At.condT rfl ?_
  refine At.skip ?_
  refine At.then ?_
  refine At.seq ?_
  refine At.block ?_
  refine At.seq ?_
  refine At.region ?_
  refine L.mv rfl rfl ?_
  refine L.nc rfl rfl ?_
  refine L.fa 1 rfl rfl rfl ?_
  refine L.ld rfl rfl rfl rfl ?_
  refine L.mv rfl rfl ?_
  refine L.pure rfl (ev_ixN (z := 3) rfl rfl rfl rfl (by omega)) ?_
  refine L.fa 0 rfl rfl rfl ?_
  refine L.val rfl (ev_load1 rfl rfl) (rtCell (k := 0) (.tail (.head)) hu rfl) ?_
  refine L.mv rfl rfl ?_
  refine L.pure rfl (ev_eql rfl rfl rfl) ?_
  refine L.nil ?_
  refine At.then ?_
  refine At.condD rfl (fun c25 => ?_) (fun c25 => ?_)
  ·
    obtain rfl : i = i0 := by
      rcases Nat.lt_or_ge i i0 with h' | h'
      · exact absurd c25 (hf i u h' hu)
      · omega
    have hcap : rs.length * 3 = (rtV rs).length := (rtV_len rs).symm
    refine At.seq ?_
    refine At.ent (l' := row 117 3 (.slice none 0 0) 0 [] :: _) Ent.row0 ?_
    refine At.region ?_
    refine L.mv rfl rfl ?_
    refine L.nc rfl rfl ?_
    refine L.fa 1 rfl rfl rfl ?_
    refine L.ld rfl rfl rfl rfl ?_
    refine L.mv rfl rfl ?_
    refine L.pure rfl (ev_headZ (a := i) rfl rfl rfl rfl rfl (by omega)) ?_
    refine L.op rfl (o_append rfl rfl infoRT rfl (by omega) rfl rfl .head (news := rtV (rs.take i)) (by rw [rtV_len, List.length_take]; omega) (fun h => by cases h) (srcRow (.tail (.tail (.head))) (fun j u h => by rw [Nat.zero_add]; rw [← rtV_take, List.getElem?_take] at h; split at h; exact h; cases h)) (rtV_cell _) (by unfold maxLen; omega) (by omega) fun v' hv' => ?_)
    refine L.as rfl rfl ?_
    refine L.nil ?_
    refine At.then ?_
    refine At.seq ?_
    refine At.region ?_
    refine L.mv rfl rfl ?_
    refine L.mv rfl rfl ?_
    refine L.mv rfl rfl ?_
    refine L.nc rfl rfl ?_
    refine L.fa 1 rfl rfl rfl ?_
    refine L.ld rfl rfl rfl rfl ?_
    refine L.mv rfl rfl ?_
    refine L.pure rfl (ev_add (r := ((i + 1 : Nat) : Int)) rfl rfl (by rw [w64 (by omega)]; omega)) ?_
    refine L.pure rfl (ev_tailZ (a := i + 1) (z := 3) rfl rfl rfl rfl (by omega) hc1) ?_
    refine L.op rfl (o_append rfl rfl infoRT rfl (by omega) rfl rfl .head (news := rtV (rs.drop (i + 1))) (by rw [rtV_len, List.length_drop]) (fun h => by cases h) (srcTail (.tail (.tail (.head))) (fun hc => by rw [List.drop_eq_nil_of_le (by omega)]; rfl) (fun j u h => by rw [← rtV_drop, List.getElem?_drop] at h; exact h)) (rtV_cell _) (by unfold maxLen; omega) (by omega) fun v7 hv7 => ?_)
    refine At.formRow .head ?_
    rintro A9 c9 rfl _ _ _ _ _
    refine L.nc rfl rfl ?_
    refine L.fa 1 rfl rfl rfl ?_
    refine L.st rfl rfl rfl rfl (by first | decide | simp | (simp; omega)) ?_
    refine L.nil ?_
    refine At.then ?_
    refine At.seq ?_
    refine At.region ?_
    refine L.as rfl rfl ?_
    refine L.nil ?_
    refine At.then ?_
    refine At.ret ?_
    refine At.inBlockRet (At.thenRet (At.roundRet (At.inBlockRet (At.thenRet ?_))))
    have el : 0 + i + (rs.length - (i + 1)) = (rs.eraseIdx i).length := by rw [List.length_eraseIdx, if_pos hlt]; omega
    have ev : [] ++ rtV (rs.take i) ++ rtV (rs.drop (i + 1)) = rtV (rs.eraseIdx i) := by rw [List.nil_append, ← rtV_app, ← List.eraseIdx_eq_take_drop_succ]
    rw [el, ev]
    exact At.ret1 [_] rfl rfl ⟨rfl, rfl⟩ ((Ent.cons (Ent.cons Ent.drop)).trans Ent.closeRw)
  ·
    have hne : i < i0 := by
      rcases Nat.lt_or_ge i i0 with h' | h'
      · exact h'
      · obtain rfl : i = i0 := by omega
        rw [hx] at hu
        injection hu with hu
        subst hu
        exact absurd rfl c25
    refine At.skip ?_
    refine At.inBlock (At.then ?_)
    refine At.region ?_
    refine L.mv rfl rfl ?_
    refine L.pure rfl (ev_add (r := ((i + 1 : Nat) : Int)) rfl rfl (by rw [w64 (by omega)]; omega)) ?_
    refine L.as rfl rfl ?_
    refine L.nil ?_
    exact At.round (i + 1) hne (by omega) ⟨rfl, rfl, rfl, trivial⟩ (Ent.refl _)
  -- unused hints: ['nojoin r3']

theorem rcancel_does {rs : List RT} (m now sq : Nat) (k : Int) (h : ROk rs sq) :
    Does Tryd.prog G 40 [ptr m, .int .i64 k].toArray [rw m now rs sq]
      fun v r => v = .int .i64 (FK.cancelR (rs.map (·.1)) k).1 ∧ ∃ rs' : List RT, ROk rs' sq ∧ rs'.map (·.1) = (FK.cancelR (rs.map (·.1)) k).2 ∧ r = [rw m now rs' sq] := by
  by_cases hk : k ∈ rs.map fun x => x.1.1
  · have hR : FK.cancelR (rs.map (·.1)) k = (0, (rs.map (·.1)).eraseP (·.1 == k)) := by rw [FK.cancelR, if_pos (by rw [rkeys]; exact hk)]
    obtain ⟨x, hx, rfl⟩ := List.mem_map.1 hk
    obtain ⟨i, hi⟩ := List.getElem?_of_mem hx
    have hf : ∀ j y, j < i → rs[j]? = some y → y.1.1 ≠ x.1.1 := fun j y hj hy e => by
      have := key_only h.keys hy hi e
      omega
    rw [hR]
    refine (rcancel_hit m now sq h.len hi hf).mono ?_
    rintro v r ⟨rfl, rfl⟩
    exact ⟨_, ⟨rfl, rs.eraseIdx i, h.erase i, (erase_first hi hf).symm, rfl⟩, Ent.refl _⟩
  · have hR : FK.cancelR (rs.map (·.1)) k = (8, rs.map (·.1)) := by rw [FK.cancelR, if_neg (by rw [rkeys]; exact hk)]
    rw [hR]
    refine (rcancel_miss m now sq k h.len hk).mono ?_
    rintro v r ⟨rfl, rfl⟩
    exact ⟨_, ⟨rfl, rs, h, rfl, rfl⟩, Ent.refl _⟩

set_option maxRecDepth 10000 in
set_option maxHeartbeats 1000000 in
theorem rnext_does {rs : List RT} (m now sq : Nat) (h : ROk rs sq) :
    Does Tryd.prog G 41 [ptr m].toArray [rw m now rs sq] fun v r => NextV (rs.map (·.1)) v ∧ r = [rw m now rs sq] := by
  have hlen := h.len
  refine Does.body Tryd.func41 rfl rfl fun E fr hE => ?_
  refine At.app1 ?_
  refine At.seq ?_
  refine At.region ?_
  refine L.as rfl rfl ?_
  refine L.as rfl rfl ?_
  refine L.nil ?_
  refine At.then ?_
  refine At.seq ?_
  refine At.region ?_
  refine L.mv rfl rfl ?_
  refine L.op rfl (o_call rfl rfl rfl hE (rfirst_does m now sq h) (Ent.refl _) ?_)
  rintro v m ⟨hF, rfl⟩
  refine At.app1 ?_
  obtain ⟨b, rfl, hb⟩ : ∃ b : Int, v = .int .i64 b ∧ ((rs = [] ∧ b = -1) ∨ ∃ (i : Nat) (x : RT), rs[i]? = some x ∧ b = i ∧ (∀ k y, k < i → rs[k]? = some y → x.1.2 < y.1.2) ∧ ∀ k y, i < k → rs[k]? = some y → x.1.2 ≤ y.1.2) := by
    rcases hF with ⟨h0, rfl⟩ | ⟨i, x, h1, rfl, h2⟩
    · exact ⟨-1, rfl, .inl ⟨h0, rfl⟩⟩
    · exact ⟨i, rfl, .inr ⟨i, x, h1, rfl, h2⟩⟩
  refine L.as rfl rfl ?_
  refine L.nil ?_
  refine At.then ?_
  refine At.seq ?_
  refine At.seq ?_
  refine At.region ?_
  refine L.mv rfl rfl ?_
  refine L.pure rfl (ev_lss rfl rfl rfl) ?_
  refine L.nil ?_
  refine At.then ?_
  refine At.condD rfl (fun c8 => ?_) (fun c8 => ?_)
  ·
    have h0 : rs = [] := by
      rcases hb with ⟨h0, _⟩ | ⟨i, x, _, rfl, _⟩
      · exact h0
      · omega
    refine At.seq ?_
    refine At.region ?_
    refine L.as rfl rfl ?_
    refine L.as rfl rfl ?_
    refine L.nil ?_
    refine At.then ?_
    refine At.ret ?_
    refine At.thenRet ?_
    exact At.ret2 [_] rfl rfl rfl ⟨.inl ⟨by rw [h0]; rfl, rfl⟩, rfl⟩ (Ent.refl _)
  ·
    obtain ⟨i, x, hx, rfl, h1, h2⟩ : ∃ (i : Nat) (x : RT), rs[i]? = some x ∧ b = i ∧ (∀ k y, k < i → rs[k]? = some y → x.1.2 < y.1.2) ∧ ∀ k y, i < k → rs[k]? = some y → x.1.2 ≤ y.1.2 := by
      rcases hb with ⟨_, rfl⟩ | h0
      · omega
      · exact h0
    have hlt := (List.getElem?_eq_some_iff.1 hx).1
    have hmin := RFirst.min hx h1 h2
    refine At.openRw .head fun A c hnil hform hc1 hc2 => ?_
    obtain ⟨g, rfl⟩ : ∃ g, A = some ⟨g, 0, none⟩ := by
      cases A with
      | none => have := (hnil rfl).1; omega
      | some ad => obtain ⟨g, rfl⟩ := hform ad rfl; exact ⟨g, rfl⟩
    refine At.skip ?_
    refine At.then ?_
    refine At.seq ?_
    refine At.region ?_
    refine L.mv rfl rfl ?_
    refine L.nc rfl rfl ?_
    refine L.fa 1 rfl rfl rfl ?_
    refine L.ld rfl rfl rfl rfl ?_
    refine L.mv rfl rfl ?_
    refine L.pure rfl (ev_ixN (z := 3) rfl rfl rfl rfl (by omega)) ?_
    refine L.fa 1 rfl rfl rfl ?_
    refine L.val rfl (ev_load1 rfl rfl) (rtCell (k := 1) (.tail (.head)) hx rfl) ?_
    refine L.as rfl rfl ?_
    refine L.as rfl rfl ?_
    refine L.nil ?_
    refine At.then ?_
    refine At.ret ?_
    exact At.ret2 [_] rfl rfl rfl ⟨.inr ⟨x.1, _, hmin, rfl⟩, rfl⟩ Ent.closeRw

theorem first_key {rs : List RT} {sq : Nat} (h : ROk rs sq) {i : Nat} {x : RT} (hx : rs[i]? = some x) : ∀ j y, j < i → rs[j]? = some y → y.1.1 ≠ x.1.1 := fun j y hj hy e => by
  have := key_only h.keys hy hx e
  omega

set_option maxRecDepth 10000 in
set_option maxHeartbeats 1000000 in
theorem radvance_does {rs0 : List RT} (m now sq n : Nat) (h : ROk rs0 sq) (hnow : now ≤ 4611686018427387904) (hn : n < 18446744073709551616) :
    Does Tryd.prog G 42 [ptr m, .int .u64 n].toArray [rw m now rs0 sq]
      fun v r => ∃ (o : List FK.KD) (rs' : List RT), FK.Pops (toOf now n) (rs0.map (·.1)) o (rs'.map (·.1)) ∧ ROk rs' sq ∧ (v = .slice none 0 0 ↔ o = []) ∧ r = [row 63 2 v o.length (firedV o), rw m (toOf now n) rs' sq] := by
  obtain ⟨up, hup⟩ : ∃ up, up = toOf now n := ⟨_, rfl⟩
  have hup2 : up ≤ 4611686018427387904 := by rw [hup]; exact toOf_le _ _
  rw [← hup]
  obtain ⟨q, hq⟩ : ∃ q, q = (now + n) % 18446744073709551616 := ⟨_, rfl⟩
  refine Does.body Tryd.func42 rfl rfl fun E fr hE => ?_
  refine At.app1 ?_
  refine At.openRw .head fun A c hnil hform hc1 hc2 => ?_
  refine At.seq ?_
  refine At.region ?_
  refine L.as rfl rfl ?_
  refine L.nil ?_
  refine At.then ?_
  refine At.seq ?_
  refine At.region ?_
  refine L.mv rfl rfl ?_
  refine L.nc rfl rfl ?_
  refine L.fa 0 rfl rfl rfl ?_
  refine L.ld rfl rfl rfl rfl ?_
  refine L.mv rfl rfl ?_
  refine L.pure rfl (ev_add (r := (q : Int)) rfl rfl (by rw [mu64]; omega)) ?_
  refine L.as rfl rfl ?_
  refine L.nil ?_
  refine At.then ?_
  refine At.seq (At.cut (X := Nat) (fun y => [(5, .int .u64 y), (0, ptr m)]) (fun _ => rw m now rs0 sq :: fr) (fun y => y = up) ?_ ?_)
  ·
    refine At.seq ?_
    by_cases hw : q < now
    ·
      refine At.region ?_
      refine L.mv rfl rfl ?_
      refine L.mv rfl rfl ?_
      refine L.nc rfl rfl ?_
      refine L.fa 0 rfl rfl rfl ?_
      refine L.ld rfl rfl rfl rfl ?_
      refine L.pure rfl (ev_lss (r := true) rfl rfl (by rw [decide_eq_true_iff]; omega)) ?_
      refine L.mv rfl rfl ?_
      refine L.off rfl rfl rfl rfl rfl rfl ?_
      refine L.off rfl rfl rfl rfl rfl rfl ?_
      refine L.pure rfl (ev_pick rfl rfl rfl) ?_
      refine L.nil ?_
      refine At.then ?_
      refine At.condT rfl ?_
      refine At.region ?_
      refine L.as rfl rfl ?_
      refine L.nil ?_
      exact At.meet 4611686018427387904 (by rw [hup, toOf, if_pos (by omega)]) ⟨rfl, rfl, trivial⟩ Ent.closeRw
    ·
      refine At.region ?_
      refine L.mv rfl rfl ?_
      refine L.mv rfl rfl ?_
      refine L.nc rfl rfl ?_
      refine L.fa 0 rfl rfl rfl ?_
      refine L.ld rfl rfl rfl rfl ?_
      refine L.pure rfl (ev_lss (r := false) rfl rfl (by rw [decide_eq_false_iff_not]; omega)) ?_
      refine L.mv rfl rfl ?_
      refine L.on rfl rfl rfl (L.vala rfl (ev_move rfl) (fun _ _ => trivial) ?_)
      refine L.on rfl rfl rfl (L.vala rfl (ev_gtr rfl rfl rfl) (fun _ _ => trivial) ?_)
      refine L.pure rfl (ev_pick rfl rfl rfl) ?_
      refine L.nil ?_
      refine At.then ?_
      refine At.condD rfl (fun c23 => ?_) (fun c23 => ?_)
      ·
        refine At.region ?_
        refine L.as rfl rfl ?_
        refine L.nil ?_
        exact At.meet 4611686018427387904 (by rw [hup, toOf, if_neg (by omega)]; omega) ⟨rfl, rfl, trivial⟩ Ent.closeRw
      ·
        refine At.skip ?_
        exact At.meet q (by rw [hup, toOf, if_neg (by omega)]; omega) ⟨rfl, rfl, trivial⟩ Ent.closeRw
  intro y hy
  subst y
  refine At.seq ?_
  refine At.region ?_
  refine L.as rfl rfl ?_
  refine L.nil ?_
  refine At.then ?_
  refine At.seq ?_
  refine At.block ?_
  refine At.loop (X := List RT × List FK.KD × Value) (fun p => [(5, .int .u64 up), (6, p.2.2), (0, ptr m)]) (fun p => row 63 2 p.2.2 p.2.1.length (firedV p.2.1) :: rw m now p.1 sq :: fr) (fun p => ROk p.1 sq ∧ FK.Till up (rs0.map (·.1)) p.2.1 (p.1.map (·.1)) ∧ p.2.1.length + p.1.length ≤ 200 ∧ (p.2.2 = .slice none 0 0 ↔ p.2.1 = [])) (fun p => p.1.length) (rs0, [], .slice none 0 0) ⟨h, FK.Till.refl _ _, by simpa using h.len, by simp⟩ ⟨rfl, rfl, rfl, trivial⟩ Ent.row0 ?_
  rintro ⟨rs, o, sv⟩ ⟨hR, hTill, hTln, hv⟩
  replace hR : ROk rs sq := hR
  replace hTill : FK.Till up (rs0.map (·.1)) o (rs.map (·.1)) := hTill
  replace hTln : o.length + rs.length ≤ 200 := hTln
  replace hv : sv = .slice none 0 0 ↔ o = [] := hv
  refine At.ent (l' := row 63 2 sv o.length (firedV o) :: rw m now rs sq :: fr) (Ent.refl _) ?_
  refine At.block ?_
  refine At.seq ?_
  refine At.region ?_
  refine L.mv rfl rfl ?_
  refine L.op rfl (o_call rfl rfl rfl hE (rfirst_does m now sq hR) (Ent.sel (.tail (.head))) ?_)
  rintro v m ⟨hF, rfl⟩
  refine At.app1 ?_
  obtain ⟨b, rfl, hb⟩ : ∃ b : Int, v = .int .i64 b ∧ ((rs = [] ∧ b = -1) ∨ ∃ (i : Nat) (x : RT), rs[i]? = some x ∧ b = i ∧ (∀ k y, k < i → rs[k]? = some y → x.1.2 < y.1.2) ∧ ∀ k y, i < k → rs[k]? = some y → x.1.2 ≤ y.1.2) := by
    rcases hF with ⟨h0, rfl⟩ | ⟨i, x, h1, rfl, h2⟩
    · exact ⟨-1, rfl, .inl ⟨h0, rfl⟩⟩
    · exact ⟨i, rfl, .inr ⟨i, x, h1, rfl, h2⟩⟩
  refine At.openRw .head fun A c hnil hform hc1 hc2 => ?_
  refine L.as rfl rfl ?_
  refine L.nil ?_
  refine At.then ?_
  refine At.seq ?_
  refine At.seq ?_
  by_cases hz : rs = []
  ·
    obtain rfl : b = -1 := by
      rcases hb with ⟨_, h0⟩ | ⟨i, x, hx, _⟩
      · exact h0
      · rw [hz] at hx; simp at hx
    refine At.region ?_
    refine L.mv rfl rfl ?_
    refine L.pure rfl (ev_lss (r := true) rfl rfl rfl) ?_
    refine L.mv rfl rfl ?_
    refine L.off rfl rfl rfl rfl rfl rfl ?_
    refine L.off rfl rfl rfl rfl rfl rfl ?_
    refine L.off rfl rfl rfl rfl rfl rfl ?_
    refine L.off rfl rfl rfl rfl rfl rfl ?_
    refine L.off rfl rfl rfl rfl rfl rfl ?_
    refine L.off rfl rfl rfl rfl rfl rfl ?_
    refine L.off rfl rfl rfl rfl rfl rfl ?_
    refine L.off rfl rfl rfl rfl rfl rfl ?_
    refine L.off rfl rfl rfl rfl rfl rfl ?_
    refine L.off rfl rfl rfl rfl rfl rfl ?_
    refine L.pure rfl (ev_pick rfl rfl rfl) ?_
    refine L.nil ?_
    refine At.then ?_
    refine At.condT rfl ?_
    refine At.exit ?_
    refine At.thenExit (At.inBlockMiss rfl (At.roundExit (At.inBlockHit (At.then ?_))))
    refine At.seq ?_
    refine At.region ?_
    refine L.mv rfl rfl ?_
    refine L.mv rfl rfl ?_
    refine L.nc rfl rfl ?_
    refine L.fa 0 rfl rfl rfl ?_
    refine L.st rfl rfl rfl rfl (by first | decide | simp | (simp; omega)) ?_
    refine L.nil ?_
    refine At.then ?_
    refine At.seq ?_
    refine At.region ?_
    refine L.mv rfl rfl ?_
    refine L.as rfl rfl ?_
    refine L.nil ?_
    refine At.then ?_
    refine At.ret ?_
    exact At.ret1 [_, _] rfl rfl ⟨o, rs, hTill.done (fun y hy => by rw [hz] at hy; cases hy), hR, hv, rfl⟩ (((Ent.cons (Ent.perm (List.Perm.swap _ _ _)))).trans ((Ent.sel (.tail (.head))).trans (Ent.cons Ent.closeRw)))
  ·
    obtain ⟨i, x, hx, rfl, h1, h2⟩ : ∃ (i : Nat) (x : RT), rs[i]? = some x ∧ b = i ∧ (∀ k y, k < i → rs[k]? = some y → x.1.2 < y.1.2) ∧ ∀ k y, i < k → rs[k]? = some y → x.1.2 ≤ y.1.2 := by
      rcases hb with ⟨h0, _⟩ | h0
      · exact absurd h0 hz
      · exact h0
    have hlt := (List.getElem?_eq_some_iff.1 hx).1
    have hmin := RFirst.min hx h1 h2
    have hlen := hmin.len
    rw [List.length_map, List.length_map] at hlen
    obtain ⟨g, rfl⟩ : ∃ g, A = some ⟨g, 0, none⟩ := by
      cases A with
      | none => have := (hnil rfl).1; omega
      | some ad => obtain ⟨g, rfl⟩ := hform ad rfl; exact ⟨g, rfl⟩
    refine At.region ?_
    refine L.mv rfl rfl ?_
    refine L.pure rfl (ev_lss (r := false) rfl rfl (by rw [decide_eq_false_iff_not]; omega)) ?_
    refine L.mv rfl rfl ?_
    refine L.on rfl rfl rfl (L.vala rfl (ev_move rfl) (fun _ _ => trivial) ?_)
    refine L.on rfl rfl rfl (L.vala rfl (ev_nil rfl) (fun _ _ => trivial) ?_)
    refine L.on rfl rfl rfl (L.vala rfl (ev_field (off := 1) rfl rfl) (fun _ _ => trivial) ?_)
    refine L.on rfl rfl rfl (L.vala rfl (ev_load1 rfl rfl) (cellIs rfl) ?_)
    refine L.on rfl rfl rfl (L.vala rfl (ev_move rfl) (fun _ _ => trivial) ?_)
    refine L.on rfl rfl rfl (L.vala rfl (ev_ixN (z := 3) rfl rfl rfl rfl (by omega)) (fun _ _ => trivial) ?_)
    refine L.on rfl rfl rfl (L.vala rfl (ev_field (off := 1) rfl rfl) (fun _ _ => trivial) ?_)
    refine L.on rfl rfl rfl (L.vala rfl (ev_load1 rfl rfl) (rtCell (k := 1) (.tail (.head)) hx rfl) ?_)
    refine L.on rfl rfl rfl (L.vala rfl (ev_move rfl) (fun _ _ => trivial) ?_)
    refine L.on rfl rfl rfl (L.vala rfl (ev_gtr rfl rfl rfl) (fun _ _ => trivial) ?_)
    refine L.pure rfl (ev_pick rfl rfl rfl) ?_
    refine L.nil ?_
    refine At.then ?_
    refine At.condD rfl (fun c39 => ?_) (fun c39 => ?_)
    ·
      refine At.exit ?_
      refine At.thenExit (At.inBlockMiss rfl (At.roundExit (At.inBlockHit (At.then ?_))))
      refine At.seq ?_
      refine At.region ?_
      refine L.mv rfl rfl ?_
      refine L.mv rfl rfl ?_
      refine L.nc rfl rfl ?_
      refine L.fa 0 rfl rfl rfl ?_
      refine L.st rfl rfl rfl rfl (by first | decide | simp | (simp; omega)) ?_
      refine L.nil ?_
      refine At.then ?_
      refine At.seq ?_
      refine At.region ?_
      refine L.mv rfl rfl ?_
      refine L.as rfl rfl ?_
      refine L.nil ?_
      refine At.then ?_
      refine At.ret ?_
      exact At.ret1 [_, _] rfl rfl ⟨o, rs, hTill.done (fun y hy => by have := hmin.le y hy; omega), hR, hv, rfl⟩ (((Ent.cons (Ent.perm (List.Perm.swap _ _ _)))).trans ((Ent.sel (.tail (.head))).trans (Ent.cons Ent.closeRw)))
    ·
      refine At.skip ?_
      refine At.then ?_
      refine At.seq ?_
      refine Dr.start rfl ?_
      refine Dr.p 0 rfl rfl (by kernel_rfl) (ev_move rfl) ?_
      refine Dr.p 1 rfl rfl (by kernel_rfl) (ev_move rfl) ?_
      refine Dr.p 2 rfl rfl (by kernel_rfl) (ev_nil rfl) ?_
      refine Dr.p 3 rfl rfl (by kernel_rfl) (ev_field (off := 1) rfl rfl) ?_
      refine Dr.ld 4 rfl rfl (by kernel_rfl) (ev_load1 rfl rfl) (cellIs rfl) ?_
      refine Dr.p 5 rfl rfl (by kernel_rfl) (ev_move rfl) ?_
      refine Dr.p 6 rfl rfl (by kernel_rfl) (ev_ixN (z := 3) rfl rfl rfl rfl (by omega)) ?_
      refine Dr.p 7 rfl rfl (by kernel_rfl) (ev_field (off := 0) rfl rfl) ?_
      refine Dr.ld 8 rfl rfl (by kernel_rfl) (ev_load1 rfl rfl) (rtCell (k := 0) (.tail (.head)) hx rfl) ?_
      refine Dr.p 9 rfl rfl (by kernel_rfl) (ev_move rfl) ?_
      refine Dr.p 10 rfl rfl (by kernel_rfl) (ev_nil rfl) ?_
      refine Dr.p 11 rfl rfl (by kernel_rfl) (ev_field (off := 1) rfl rfl) ?_
      refine Dr.ld 12 rfl rfl (by kernel_rfl) (ev_load1 rfl rfl) (cellIs rfl) ?_
      refine Dr.p 13 rfl rfl (by kernel_rfl) (ev_move rfl) ?_
      refine Dr.p 14 rfl rfl (by kernel_rfl) (ev_ixN (z := 3) rfl rfl rfl rfl (by omega)) ?_
      refine Dr.p 15 rfl rfl (by kernel_rfl) (ev_field (off := 1) rfl rfl) ?_
      refine Dr.ld 16 rfl rfl (by kernel_rfl) (ev_load1 rfl rfl) (rtCell (k := 1) (.tail (.head)) hx rfl) ?_
      refine Dr.p 17 rfl rfl (by kernel_rfl) (ev_build (cs := #[.int .i64 x.1.1, .int .u64 x.1.2]) rfl rfl rfl rfl rfl) ?_
      refine Dr.run 18 rfl rfl (by kernel_rfl) (o_slices (m := 1) (z := .agg #[.int .i64 0, .int .u64 0]) (size := 2) (ps := [(0, .tmp 57)]) (vs := [.agg #[.int .i64 x.1.1, .int .u64 x.1.2]]) (cs := #[.int .i64 x.1.1, .int .u64 x.1.2]) rfl rfl rfl rfl (by omega) (by omega) rfl (by kernel_rfl) fun b58 => ?_)
      refine Dr.kept [true, true, true, true] (by kernel_rfl) (Kept.cons (rtCell (k := 1) (.tail (.tail (.head))) hx rfl) (Kept.cons (cellIs rfl) (Kept.cons (rtCell (k := 0) (.tail (.tail (.head))) hx rfl) (Kept.cons (cellIs rfl) Kept.nil)))) ?_
      refine Dr.run 19 rfl rfl (by kernel_rfl) (o_append rfl rfl infoFired rfl (by omega) rfl rfl (.tail (.tail (.tail (.head)))) (news := [.int .i64 x.1.1, .int .u64 x.1.2]) rfl (fun h => by cases h) (srcIs (fun j u h => by simpa using h)) (by simp [Value.oneCell']) (by unfold maxLen; omega) (by omega) fun v' hv' => ?_)
      refine Dr.kept [true, true, true, true] (by kernel_rfl) (Kept.cons (rtCell (k := 1) (.tail (.tail (.tail (.head)))) hx rfl) (Kept.cons (cellIs rfl) (Kept.cons (rtCell (k := 0) (.tail (.tail (.tail (.head)))) hx rfl) (Kept.cons (cellIs rfl) Kept.nil)))) ?_
      refine Dr.p 20 rfl rfl (by kernel_rfl) (ev_assign rfl) ?_
      refine Dr.done (by kernel_rfl) ?_
      refine At.then ?_
      refine At.region ?_
      refine L.mv rfl rfl ?_
      refine L.mv rfl rfl ?_
      refine L.nc rfl rfl ?_
      refine L.fa 1 rfl rfl rfl ?_
      refine L.ld rfl rfl rfl rfl ?_
      refine L.mv rfl rfl ?_
      refine L.pure rfl (ev_ixN (z := 3) rfl rfl rfl rfl (by omega)) ?_
      refine L.fa 0 rfl rfl rfl ?_
      refine L.val rfl (ev_load1 rfl rfl) (rtCell (k := 0) (.tail (.tail (.tail (.head)))) hx rfl) ?_
      refine L.op rfl (o_call rfl rfl rfl hE (rcancel_hit m now sq hR.len hx (first_key hR hx)) ((Ent.sel2 (.tail (.tail (.head))) (.tail (.tail (.head)))).trans Ent.closeRw) ?_)
      rintro v m ⟨rfl, rfl⟩
      refine At.app1 ?_
      refine L.nil ?_
      refine At.inBlock ?_
      exact At.round (rs.eraseIdx i, o ++ [x.1], v') ⟨hR.erase i, hTill.one hmin (by omega), by simp only [List.length_append, List.length_cons, List.length_nil]; omega, by rw [hv']; simp⟩ (by show (rs.eraseIdx i).length < rs.length; omega) ⟨rfl, rfl, rfl, trivial⟩ (by
        have e : firedV (o ++ [x.1]) = firedV o ++ [.int .i64 x.1.1, .int .u64 x.1.2] := by simp [firedV]
        simp only [List.length_append, List.length_cons, List.length_nil]
        rw [e]
        exact (Ent.sel2 (.tail (.head)) .head).trans (Ent.cons (Ent.cons Ent.drop)))
end Go.Proofs.YtagkobkmaigfcaaDoor

/- Structs of integers held against one another. -/
namespace Go.SL
open Go Go.RowKit
section
variable {P : Program} {ts : List (Nat × Value)}
def eqInts (P : Program) (xs ys : Array Value) : List Field → Option Bool
  | [] => some true
  | f :: fs => bif f.name != "_" then
      match P.underlying f.type, xs[f.offset]?, ys[f.offset]? with
      | some (.int _), some (.int k a), some (.int k' b) => bif k == k' then (eqInts P xs ys fs).map ((a == b) && ·) else none
      | _, _, _ => none
    else none
theorem run_eqInts {d : Nat} {w : World} {xs ys : Array Value} : ∀ {fs : List Field} {r : Bool}, eqInts P xs ys fs = some r → (Op.eqFields (d + 1) xs ys fs).run P w = .ok r w
  | [], r, h => by simp [eqInts] at h; subst h; simp [Op.eqFields]
  | f :: fs, r, h => by
    simp only [eqInts] at h
    cases hn : f.name != "_" with
    | false => rw [hn] at h; simp at h
    | true =>
      rw [hn, cond_true] at h
      have hn' : f.name ≠ "_" := by simpa using hn
      split at h
      · rename_i k0 k a k' b hu hx hy
        cases hk : k == k' with
        | false => rw [hk] at h; simp at h
        | true =>
          rw [hk, cond_true, Option.map_eq_some_iff] at h
          obtain ⟨r', hr', e⟩ := h
          have ih := run_eqInts (d := d) (w := w) hr'
          have hk' : k = k' := by simpa using hk
          subst hk'
          have hp : ∀ (cs : Array Value) (v : Value), cs[f.offset]? = some v → (part f.type cs f.offset).run P w = .ok v w := fun cs v hv => by
            simp [part, isAgg, run_underlying hu, hv]
          have he : (Op.equalIn (d + 1) f.type (.int k a) (.int k b)).run P w = .ok (a == b) w := run_equalIn_int w d f.type k k0 a b hu
          simp only [Op.eqFields, if_pos hn', Sem.run_bind, hp xs _ hx, hp ys _ hy, he, Result.andThen_ok]
          cases hab : a == b with
          | true => rw [hab] at e; simp at e; subst e; simpa using ih
          | false => rw [hab] at e; simp at e; subst e; simp
      · cases h

theorem ev_neqStruct {t t' : TypeId} {x y : Operand} {xs ys : Array Value} {b r : Bool} (ht : P.underlying t = some (.struct (P.fieldsOf t))) (hp : P.stoodInHeld t = false) (hm : P.eqGuardType P.depth t = false) (hx : ev ts x = some (.agg xs)) (hy : ev ts y = some (.agg ys)) (h : eqInts P xs ys (P.fieldsOf t).toList = some b) (hr : (!b) = r) :
    Ev P ts (.binOp .neq t x y t') (.bool r) Any := by
  intro ac w _ _ _ _ _ kn _
  subst hr
  refine exec_bin (kn.eval hx) (kn.eval hy) (run_eqGuard_agg w _ _ _ _ _ _ hm) ?_
  rw [run_neq_struct, run_equalIn_agg w 9999 t xs ys ht hp, run_eqInts h, Result.andThen_ok]
theorem ev_eqlStruct {t t' : TypeId} {x y : Operand} {xs ys : Array Value} {r : Bool} (ht : P.underlying t = some (.struct (P.fieldsOf t))) (hp : P.stoodInHeld t = false) (hm : P.eqGuardType P.depth t = false) (hx : ev ts x = some (.agg xs)) (hy : ev ts y = some (.agg ys)) (h : eqInts P xs ys (P.fieldsOf t).toList = some r) :
    Ev P ts (.binOp .eql t x y t') (.bool r) Any := by
  intro ac w _ _ _ _ _ kn _
  refine exec_bin (kn.eval hx) (kn.eval hy) (run_eqGuard_agg w _ _ _ _ _ _ hm) ?_
  rw [run_eql_struct, run_equalIn_agg w 9999 t xs ys ht hp, run_eqInts h, Result.andThen_ok]
end
end Go.SL

/- One turn of a wheel's script. -/
namespace Go.Proofs.YtagkobkmaigfcaaDoor
open Go Go.RowKit Go.SL

/-- both wheels at once -/
structure Two (S : FK.WS) (rs : List RT) (sq : Nat) : Prop where
  inv : FK.Inv S []
  ok : ROk rs sq
  same : rs.map (·.1) = S.tms.map FK.kd
theorem Two.len {S : FK.WS} {rs : List RT} {sq : Nat} (h : Two S rs sq) : S.tms.length ≤ 200 := by
  have h1 := congrArg List.length h.same
  rw [List.length_map, List.length_map] at h1
  have := h.ok.len
  omega

theorem nextV_same {L : List FK.KD} {v v' : Value} (h : NextV L v) (h' : NextV L v') : v = v' := by
  rcases h with ⟨h0, rfl⟩ | ⟨x, L1, hm, rfl⟩
  · rcases h' with ⟨_, rfl⟩ | ⟨x', L1', hm', rfl⟩
    · rfl
    · have := hm'.mem; rw [h0] at this; cases this
  · rcases h' with ⟨h0, rfl⟩ | ⟨x', L1', hm', rfl⟩
    · have := hm.mem; rw [h0] at this; cases this
    · rw [(hm.unique hm').1]
theorem nextV_form {L : List FK.KD} {v : Value} (h : NextV L v) : ∃ (a : Nat) (ok : Bool), v = .tuple #[.int .u64 a, .bool ok] := by
  rcases h with ⟨_, rfl⟩ | ⟨x, L1, _, rfl⟩
  · exact ⟨0, false, rfl⟩
  · exact ⟨x.2, true, rfl⟩
theorem fired2 (x : FK.KD) : ([Value.int .i64 x.1, .int .u64 x.2] : List Value).length = 2 := rfl
theorem fired_at {o : List FK.KD} {i : Nat} {x : FK.KD} (h : o[i]? = some x) : ∀ j u, [Value.int .i64 x.1, .int .u64 x.2][j]? = some u → (firedV o)[i * 2 + j]? = some u := fun j _ hj => flatx_at (f := fun x : FK.KD => [Value.int .i64 x.1, .int .u64 x.2]) (k := 2) fired2 j h hj

theorem rwNow {E : Env} {l r : List HP} {m now sq : Nat} {rs : List RT} (s : Sel (rw m now rs sq) l r) : ∀ w, Holds E w l → CellIs ⟨m, 0 + 0, none⟩ (.int .u64 now) w := fun w hw => by
  obtain ⟨F1, _, _, _, _, hp, _⟩ := (hw.sel s).star
  obtain ⟨v, G1, G2, _, _, _, hb, _⟩ := hp
  have := hb.2
  simp [CellIs, World.cell?, this]

/-- what a turn leaves -/
def TurnR (x m : Nat) (S : FK.WS) (sq : Nat) (v : Value) (r : List HP) : Prop :=
  v = .bool true ∧ ∃ (S' : FK.WS) (rs' : List RT) (sq' : Nat), Two S' rs' sq' ∧ S'.seq ≤ S.seq + 1 ∧ sq' ≤ sq + 1 ∧ r = [fkw x S', rw m S'.now rs' sq']

set_option maxRecDepth 10000 in
set_option maxHeartbeats 4000000 in
theorem turns_does {S : FK.WS} {rs : List RT} (x m sq n : Nat) (kind id : Int) (h : Two S rs sq) (hn : n < 18446744073709551616) (hs1 : S.seq < 9223372036854775807) (hs2 : sq < 9223372036854775807) :
    Does Tryd.prog Good 21 [ptr x, ptr m, .agg #[.int .i64 kind, .int .i64 id, .int .u64 n]].toArray [fkw x S, rw m S.now rs sq] (TurnR x m S sq) := by
  have hnow : S.now ≤ 4611686018427387904 := h.inv.nowle
  have hlen := h.len
  obtain ⟨a, ha⟩ : ∃ a, a = (S.now + n) % 18446744073709551616 := ⟨_, rfl⟩
  have ha2 : a < 18446744073709551616 := by omega
  have hset := fun (a : Nat) (ha : a < 18446744073709551616) => rset_does (G := Good) m S.now sq id a h.ok hnow ha hs2
  have hcan := rcancel_does (G := Good) m S.now sq id h.ok
  have hnxt := rnext_does (G := Good) m S.now sq h.ok
  have hadv := radvance_does (G := Good) m S.now sq n h.ok hnow hn
  rw [h.same] at hcan hnxt hadv
  simp only [h.same] at hset
  refine Does.body Tryd.func21 rfl rfl fun E fr hE => ?_
  refine At.app2 ?_
  refine At.seq ?_
  refine At.region ?_
  refine L.op rfl (o_box rfl rfl fun b5 => ?_)
  refine L.as rfl rfl ?_
  refine L.nil ?_
  refine At.then ?_
  refine At.seq ?_
  refine At.seq ?_
  refine At.region ?_
  refine L.fa 0 rfl rfl rfl ?_
  refine L.ld rfl rfl rfl rfl ?_
  refine L.nil ?_
  refine At.then ?_
  refine At.block ?_
  refine At.seq ?_
  refine At.region ?_
  refine L.pure rfl (ev_eql rfl rfl rfl) ?_
  refine L.as rfl rfl ?_
  refine L.nil ?_
  refine At.then ?_
  refine At.condD rfl (fun c22 => ?_) (fun c22 => ?_)
  ·
    refine At.seq ?_
    refine At.openRw (.tail (.tail (.head))) fun A c hnil hform hc1 hc2 => ?_
    refine Dr.start rfl ?_
    refine Dr.p 0 rfl rfl (by kernel_rfl) (ev_move rfl) ?_
    refine Dr.p 1 rfl rfl (by kernel_rfl) (ev_field (off := 1) rfl rfl) ?_
    refine Dr.ld 2 rfl rfl (by kernel_rfl) (ev_load1 rfl rfl) (cellIs rfl) ?_
    refine Dr.p 3 rfl rfl (by kernel_rfl) (ev_move rfl) ?_
    refine Dr.p 4 rfl rfl (by kernel_rfl) (ev_nil rfl) ?_
    refine Dr.p 5 rfl rfl (by kernel_rfl) (ev_field (off := 0) rfl rfl) ?_
    refine Dr.ld 6 rfl rfl (by kernel_rfl) (ev_load1 rfl rfl) (cellIs rfl) ?_
    refine Dr.p 7 rfl rfl (by kernel_rfl) (ev_field (off := 2) rfl rfl) ?_
    refine Dr.ld 8 rfl rfl (by kernel_rfl) (ev_load1 rfl rfl) (cellIs rfl) ?_
    refine Dr.p 9 rfl rfl (by kernel_rfl) (ev_add (r := (a : Int)) rfl rfl (by rw [mu64]; omega)) ?_
    refine Dr.run 10 rfl rfl (by kernel_rfl) (o_call rfl rfl rfl hE (pset_does x id a h.inv ha2 hs1 hlen) (Ent.sel (.tail (.tail (.tail (.head))))) ?_)
    rintro v m ⟨rfl, S', hI', hn', hs', hk', rfl⟩
    refine At.app1 ?_
    refine Dr.kept [true, true, false] (by kernel_rfl) (Kept.cons (cellIs rfl) (Kept.cons (cellIs rfl) Kept.nil)) ?_
    refine Dr.p 11 rfl rfl (by kernel_rfl) (ev_assign rfl) ?_
    refine Dr.done (by kernel_rfl) ?_
    refine At.then ?_
    refine At.seq ?_
    refine Dr.start rfl ?_
    refine Dr.p 0 rfl rfl (by kernel_rfl) (ev_move rfl) ?_
    refine Dr.p 1 rfl rfl (by kernel_rfl) (ev_field (off := 1) rfl rfl) ?_
    refine Dr.ld 2 rfl rfl (by kernel_rfl) (ev_load1 rfl rfl) (cellIs rfl) ?_
    refine Dr.p 3 rfl rfl (by kernel_rfl) (ev_move rfl) ?_
    refine Dr.p 4 rfl rfl (by kernel_rfl) (ev_nil rfl) ?_
    refine Dr.p 5 rfl rfl (by kernel_rfl) (ev_field (off := 0) rfl rfl) ?_
    refine Dr.ld 6 rfl rfl (by kernel_rfl) (ev_load1 rfl rfl) (cellIs rfl) ?_
    refine Dr.p 7 rfl rfl (by kernel_rfl) (ev_field (off := 2) rfl rfl) ?_
    refine Dr.ld 8 rfl rfl (by kernel_rfl) (ev_load1 rfl rfl) (cellIs rfl) ?_
    refine Dr.p 9 rfl rfl (by kernel_rfl) (ev_add (r := (a : Int)) rfl rfl (by rw [mu64]; omega)) ?_
    refine Dr.run 10 rfl rfl (by kernel_rfl) (o_call rfl rfl rfl hE (hset a ha2) ((Ent.sel2 (.tail (.head)) (.tail (.head))).trans Ent.closeRw) ?_)
    rintro v m ⟨rfl, rs', sq', hR', hq', hr', rfl⟩
    refine At.app1 ?_
    refine Dr.kept [true, true, false] (by kernel_rfl) (Kept.cons (cellIs rfl) (Kept.cons (rwNow .head) Kept.nil)) ?_
    refine Dr.p 11 rfl rfl (by kernel_rfl) (ev_assign rfl) ?_
    refine Dr.done (by kernel_rfl) ?_
    refine At.then ?_
    refine At.seq ?_
    refine At.region ?_
    refine L.mv rfl rfl ?_
    refine L.mv rfl rfl ?_
    refine L.pure rfl (ev_eql (r := true) rfl rfl (by simp)) ?_
    refine L.as rfl rfl ?_
    refine L.nil ?_
    refine At.then ?_
    refine At.ret ?_
    refine At.inBlockRet (At.thenRet ?_)
    exact At.ret1 [fkw x S', rw m S.now rs' sq'] rfl rfl ⟨rfl, S', rs', sq', ⟨hI', hR', by rw [hr', hk']⟩, hs', hq', by rw [hn']⟩ ((Ent.perm (List.Perm.swap _ _ _)).trans (Ent.cons (Ent.cons Ent.drop)))
  ·
    refine At.seq ?_
    refine At.region ?_
    refine L.pure rfl (ev_eql rfl rfl rfl) ?_
    refine L.as rfl rfl ?_
    refine L.nil ?_
    refine At.then ?_
    refine At.condD rfl (fun c49 => ?_) (fun c49 => ?_)
    ·
      refine At.seq ?_
      refine At.region ?_
      refine L.mv rfl rfl ?_
      refine L.fa 1 rfl rfl rfl ?_
      refine L.ld rfl rfl rfl rfl ?_
      refine L.fa 2 rfl rfl rfl ?_
      refine L.ld rfl rfl rfl rfl ?_
      refine L.op rfl (o_call rfl rfl rfl hE (pset_does x id n h.inv hn hs1 hlen) (Ent.sel (.tail (.head))) ?_)
      rintro v m ⟨rfl, S', hI', hn', hs', hk', rfl⟩
      refine At.app1 ?_
      refine L.as rfl rfl ?_
      refine L.nil ?_
      refine At.then ?_
      refine At.seq ?_
      refine At.region ?_
      refine L.mv rfl rfl ?_
      refine L.fa 1 rfl rfl rfl ?_
      refine L.ld rfl rfl rfl rfl ?_
      refine L.fa 2 rfl rfl rfl ?_
      refine L.ld rfl rfl rfl rfl ?_
      refine L.op rfl (o_call rfl rfl rfl hE (hset n hn) (Ent.sel (.tail (.tail (.head)))) ?_)
      rintro v m ⟨rfl, rs', sq', hR', hq', hr', rfl⟩
      refine At.app1 ?_
      refine L.as rfl rfl ?_
      refine L.nil ?_
      refine At.then ?_
      refine At.seq ?_
      refine At.region ?_
      refine L.mv rfl rfl ?_
      refine L.mv rfl rfl ?_
      refine L.pure rfl (ev_eql (r := true) rfl rfl (by simp)) ?_
      refine L.as rfl rfl ?_
      refine L.nil ?_
      refine At.then ?_
      refine At.ret ?_
      refine At.inBlockRet (At.thenRet ?_)
      exact At.ret1 [fkw x S', rw m S.now rs' sq'] rfl rfl ⟨rfl, S', rs', sq', ⟨hI', hR', by rw [hr', hk']⟩, hs', hq', by rw [hn']⟩ ((Ent.perm (List.Perm.swap _ _ _)).trans (Ent.cons (Ent.cons Ent.drop)))
    ·
      refine At.seq ?_
      refine At.region ?_
      refine L.pure rfl (ev_eql rfl rfl rfl) ?_
      refine L.as rfl rfl ?_
      refine L.nil ?_
      refine At.then ?_
      refine At.condD rfl (fun c66 => ?_) (fun c66 => ?_)
      ·
        refine At.seq ?_
        refine At.region ?_
        refine L.mv rfl rfl ?_
        refine L.fa 1 rfl rfl rfl ?_
        refine L.ld rfl rfl rfl rfl ?_
        refine L.op rfl (o_call rfl rfl rfl hE (pcancel_does x id h.inv hlen) (Ent.sel (.tail (.head))) ?_)
        rintro v m ⟨rfl, S', hI', hn', hs', hk', rfl⟩
        refine At.app1 ?_
        refine L.as rfl rfl ?_
        refine L.nil ?_
        refine At.then ?_
        refine At.seq ?_
        refine At.region ?_
        refine L.mv rfl rfl ?_
        refine L.fa 1 rfl rfl rfl ?_
        refine L.ld rfl rfl rfl rfl ?_
        refine L.op rfl (o_call rfl rfl rfl hE hcan (Ent.sel (.tail (.tail (.head)))) ?_)
        rintro v m ⟨rfl, rs', hR', hr', rfl⟩
        refine At.app1 ?_
        refine L.as rfl rfl ?_
        refine L.nil ?_
        refine At.then ?_
        refine At.seq ?_
        refine At.region ?_
        refine L.mv rfl rfl ?_
        refine L.mv rfl rfl ?_
        refine L.pure rfl (ev_eql (r := true) rfl rfl (by simp)) ?_
        refine L.as rfl rfl ?_
        refine L.nil ?_
        refine At.then ?_
        refine At.ret ?_
        refine At.inBlockRet (At.thenRet ?_)
        exact At.ret1 [fkw x S', rw m S.now rs' sq] rfl rfl ⟨rfl, S', rs', sq, ⟨hI', hR', by rw [hr', hk']⟩, by omega, by omega, by rw [hn']⟩ ((Ent.perm (List.Perm.swap _ _ _)).trans (Ent.cons (Ent.cons Ent.drop)))
      ·
        refine At.seq ?_
        refine At.region ?_
        refine L.pure rfl (ev_eql rfl rfl rfl) ?_
        refine L.as rfl rfl ?_
        refine L.nil ?_
        refine At.then ?_
        refine At.condD rfl (fun c79 => ?_) (fun c79 => ?_)
        ·
          refine At.seq ?_
          refine At.region ?_
          refine L.mv rfl rfl ?_
          refine L.op rfl (o_call rfl rfl rfl hE (fnext_does x h.inv hlen) (Ent.sel (.tail (.head))) ?_)
          rintro v m ⟨hV, rfl⟩
          refine At.app1 ?_
          obtain ⟨a1, ok1, rfl⟩ := nextV_form hV
          refine L.mv rfl rfl ?_
          refine L.ex rfl rfl rfl ?_
          refine L.ex rfl rfl rfl ?_
          refine L.as rfl rfl ?_
          refine L.as rfl rfl ?_
          refine L.nil ?_
          refine At.then ?_
          refine At.seq ?_
          refine At.region ?_
          refine L.mv rfl rfl ?_
          refine L.op rfl (o_call rfl rfl rfl hE hnxt (Ent.sel (.tail (.tail (.head)))) ?_)
          rintro v m ⟨hV', rfl⟩
          refine At.app1 ?_
          obtain rfl := nextV_same hV' hV
          refine L.mv rfl rfl ?_
          refine L.ex rfl rfl rfl ?_
          refine L.ex rfl rfl rfl ?_
          refine L.as rfl rfl ?_
          refine L.as rfl rfl ?_
          refine L.nil ?_
          refine At.then ?_
          refine At.seq ?_
          refine At.region ?_
          refine L.mv rfl rfl ?_
          refine L.mv rfl rfl ?_
          refine L.pure rfl (ev_eql (r := true) rfl rfl (by simp)) ?_
          refine L.mv rfl rfl ?_
          refine L.on rfl rfl rfl (L.vala rfl (ev_move rfl) (fun _ _ => trivial) ?_)
          refine L.on rfl rfl rfl (L.vala rfl (ev_move rfl) (fun _ _ => trivial) ?_)
          refine L.on rfl rfl rfl (L.vala rfl (ev_eqlB (r := true) rfl rfl rfl (by simp)) (fun _ _ => trivial) ?_)
          refine L.pure rfl (ev_pick rfl rfl rfl) ?_
          refine L.as rfl rfl ?_
          refine L.nil ?_
          refine At.then ?_
          refine At.ret ?_
          refine At.inBlockRet (At.thenRet ?_)
          exact At.ret1 [fkw x S, rw m S.now rs sq] rfl rfl ⟨rfl, S, rs, sq, h, by omega, by omega, rfl⟩ ((Ent.perm (List.Perm.swap _ _ _)).trans (Ent.cons (Ent.cons Ent.drop)))
        ·
          refine At.seq ?_
          refine At.region ?_
          refine L.pure rfl (ev_eql rfl rfl rfl) ?_
          refine L.as rfl rfl ?_
          refine L.nil ?_
          refine At.then ?_
          refine At.condD rfl (fun c99 => ?_) (fun c99 => ?_)
          ·
            refine At.seq ?_
            refine At.region ?_
            refine L.mv rfl rfl ?_
            refine L.fa 2 rfl rfl rfl ?_
            refine L.ld rfl rfl rfl rfl ?_
            refine L.op rfl (o_call rfl rfl rfl hE (fadvance_does x n h.inv hn (by omega) hlen) (Ent.sel (.tail (.head))) ?_)
            rintro v m ⟨o, S', hP, hI', hn', hs', hv1, rfl⟩
            refine At.app2 ?_
            refine At.formRow .head ?_
            rintro A1 c1 rfl hnil1 hform1 _ _ _
            refine L.as rfl rfl ?_
            refine L.nil ?_
            refine At.then ?_
            refine At.seq ?_
            refine At.region ?_
            refine L.mv rfl rfl ?_
            refine L.fa 2 rfl rfl rfl ?_
            refine L.ld rfl rfl rfl rfl ?_
            refine L.op rfl (o_call rfl rfl rfl hE hadv (Ent.sel (.tail (.tail (.tail (.head))))) ?_)
            rintro v m ⟨o2, rs', hP2, hR', hv2, rfl⟩
            refine At.app2 ?_
            obtain ⟨rfl, hL⟩ := hP2.unique hP
            refine At.formRow .head ?_
            rintro A2 c2 rfl hnil2 hform2 _ _ _
            refine L.as rfl rfl ?_
            refine L.nil ?_
            refine At.then ?_
            refine At.seq ?_
            refine At.seq ?_
            by_cases ho : o2 = []
            ·
              have hA1 : A1 = none := by
                have := hv1.2 ho
                injection this
              have hl0 : o2.length = 0 := by rw [ho]; rfl
              refine At.region ?_
              refine L.mv rfl rfl ?_
              refine L.pure rfl (ev_lenS rfl rfl) ?_
              refine L.mv rfl rfl ?_
              refine L.pure rfl (ev_lenS rfl rfl) ?_
              refine L.pure rfl (ev_neq (r := false) rfl rfl (by simp)) ?_
              refine L.mv rfl rfl ?_
              refine L.on rfl rfl rfl (L.vala rfl (ev_move rfl) (fun _ _ => trivial) ?_)
              refine L.on rfl rfl rfl (L.vala rfl (ev_lenS rfl rfl) (fun _ _ => trivial) ?_)
              refine L.on rfl rfl rfl (L.vala rfl (ev_eql (r := true) rfl rfl (by rw [decide_eq_true_iff]; omega)) (fun _ _ => trivial) ?_)
              refine L.on rfl rfl rfl (L.vala rfl (ev_move rfl) (fun _ _ => trivial) ?_)
              refine L.on rfl rfl rfl (L.vala rfl (ev_move rfl) (fun _ _ => trivial) ?_)
              refine L.on rfl rfl rfl (L.vala rfl (ev_neqNilS (r := false) rfl rfl (by rw [hA1]; rfl)) (fun _ _ => trivial) ?_)
              refine L.on rfl rfl rfl (L.vala rfl (ev_pick rfl rfl rfl) (fun _ _ => trivial) ?_)
              refine L.pure rfl (ev_pick rfl rfl rfl) ?_
              refine L.nil ?_
              refine At.then ?_
              refine At.condF rfl ?_
              refine At.skip ?_
              refine At.then ?_
              refine At.seq ?_
              refine At.region ?_
              refine L.as rfl rfl ?_
              refine L.nil ?_
              refine At.then ?_
              refine At.block ?_
              refine At.loop (X := Nat) (fun i => [(19, .int .i64 (i : Nat)), (17, .slice A1 o2.length c1), (18, .slice A2 o2.length c2)]) (fun _ => row 63 2 (.slice A2 o2.length c2) o2.length (firedV o2) :: rw m (toOf S.now n) rs' sq :: row 63 2 (.slice A1 o2.length c1) o2.length (firedV o2) :: fkw x S' :: fr) (fun i => i ≤ o2.length) (fun i => o2.length - i) 0 (Nat.zero_le _) ⟨rfl, rfl, rfl, trivial⟩ (Ent.cons (Ent.cons (Ent.cons (Ent.cons Ent.drop)))) ?_
              rintro i hi
              refine At.seq ?_
              refine At.seq ?_
              refine At.region ?_
              refine L.mv rfl rfl ?_
              refine L.mv rfl rfl ?_
              refine L.pure rfl (ev_lenS rfl rfl) ?_
              refine L.pure rfl (ev_lss rfl rfl rfl) ?_
              refine L.nil ?_
              refine At.then ?_
              refine At.condD rfl (fun c126 => ?_) (fun c126 => ?_)
              ·
                have hlt : i < o2.length := by omega
                obtain ⟨xo, hxo⟩ : ∃ xo, o2[i]? = some xo := ⟨o2[i], by simp [hlt]⟩
                obtain ⟨g1, rfl⟩ : ∃ g, A1 = some ⟨g, 0, none⟩ := by
                  cases A1 with
                  | none => have := (hnil1 rfl).1; omega
                  | some ad => obtain ⟨g, rfl⟩ := hform1 ad rfl; exact ⟨g, rfl⟩
                obtain ⟨g2, rfl⟩ : ∃ g, A2 = some ⟨g, 0, none⟩ := by
                  cases A2 with
                  | none => have := (hnil2 rfl).1; omega
                  | some ad => obtain ⟨g, rfl⟩ := hform2 ad rfl; exact ⟨g, rfl⟩
                refine At.skip ?_
                refine At.then ?_
                refine At.seq ?_
                refine At.block ?_
                refine At.seq ?_
                refine Dr.start rfl ?_
                refine Dr.p 0 rfl rfl (by kernel_rfl) (ev_move rfl) ?_
                refine Dr.p 1 rfl rfl (by kernel_rfl) (ev_move rfl) ?_
                refine Dr.p 2 rfl rfl (by kernel_rfl) (ev_ixN (z := 2) rfl rfl rfl rfl hlt) ?_
                refine Dr.ld 3 rfl rfl (by kernel_rfl) (ev_loadN (vs := [.int .i64 xo.1, .int .u64 xo.2]) rfl rfl rfl rfl) (rowIn (.tail (.tail (.head))) (fun j u hj => by rw [Nat.zero_add]; exact fired_at hxo j u hj)) ?_
                refine Dr.p 4 rfl rfl (by kernel_rfl) (ev_move rfl) ?_
                refine Dr.p 5 rfl rfl (by kernel_rfl) (ev_move rfl) ?_
                refine Dr.p 6 rfl rfl (by kernel_rfl) (ev_ixN (z := 2) rfl rfl rfl rfl hlt) ?_
                refine Dr.ld 7 rfl rfl (by kernel_rfl) (ev_loadN (vs := [.int .i64 xo.1, .int .u64 xo.2]) rfl rfl rfl rfl) (rowIn .head (fun j u hj => by rw [Nat.zero_add]; exact fired_at hxo j u hj)) ?_
                refine Dr.p 8 rfl rfl (by kernel_rfl) (ev_neqStruct (r := false) (by kernel_rfl) (by kernel_rfl) (by kernel_rfl) rfl rfl rfl (by simp)) ?_
                refine Dr.done (by kernel_rfl) ?_
                refine At.then ?_
                refine At.condF rfl ?_
                refine At.skip ?_
                refine At.inBlock (At.then ?_)
                refine At.region ?_
                refine L.mv rfl rfl ?_
                refine L.pure rfl (ev_add (r := ((i + 1 : Nat) : Int)) rfl rfl (by rw [w64 (by have := hR'.len; have := hP.len; have := h.len; rw [List.length_map] at *; omega)]; omega)) ?_
                refine L.as rfl rfl ?_
                refine L.nil ?_
                exact At.round (i + 1) hlt (by omega) ⟨rfl, rfl, rfl, trivial⟩ (Ent.refl _)
              ·
                refine At.exit ?_
                refine At.thenExit (At.roundExit (At.inBlockHit (At.inBlock (At.then ?_))))
                refine At.seq ?_
                refine At.region ?_
                refine L.as rfl rfl ?_
                refine L.nil ?_
                refine At.then ?_
                refine At.ret ?_
                exact At.ret1 [fkw x S', rw m (toOf S.now n) rs' sq] rfl rfl ⟨rfl, S', rs', sq, ⟨hI', hR', hL⟩, by omega, by omega, by rw [hn']⟩ ((Ent.sel2 (.tail (.tail (.tail (.head)))) (.tail (.head))).trans (Ent.cons (Ent.cons (Ent.drop.trans Ent.drop))))
            ·
              have hl0 : o2.length ≠ 0 := fun e => ho (List.eq_nil_of_length_eq_zero e)
              refine At.region ?_
              refine L.mv rfl rfl ?_
              refine L.pure rfl (ev_lenS rfl rfl) ?_
              refine L.mv rfl rfl ?_
              refine L.pure rfl (ev_lenS rfl rfl) ?_
              refine L.pure rfl (ev_neq (r := false) rfl rfl (by simp)) ?_
              refine L.mv rfl rfl ?_
              refine L.on rfl rfl rfl (L.vala rfl (ev_move rfl) (fun _ _ => trivial) ?_)
              refine L.on rfl rfl rfl (L.vala rfl (ev_lenS rfl rfl) (fun _ _ => trivial) ?_)
              refine L.on rfl rfl rfl (L.vala rfl (ev_eql (r := false) rfl rfl (by rw [decide_eq_false_iff_not]; omega)) (fun _ _ => trivial) ?_)
              refine L.on rfl rfl rfl (L.vala rfl (ev_move rfl) (fun _ _ => trivial) ?_)
              refine L.off rfl rfl rfl rfl rfl rfl ?_
              refine L.off rfl rfl rfl rfl rfl rfl ?_
              refine L.on rfl rfl rfl (L.vala rfl (ev_pick rfl rfl rfl) (fun _ _ => trivial) ?_)
              refine L.pure rfl (ev_pick rfl rfl rfl) ?_
              refine L.nil ?_
              refine At.then ?_
              refine At.condF rfl ?_
              refine At.skip ?_
              refine At.then ?_
              refine At.seq ?_
              refine At.region ?_
              refine L.as rfl rfl ?_
              refine L.nil ?_
              refine At.then ?_
              refine At.block ?_
              refine At.loop (X := Nat) (fun i => [(19, .int .i64 (i : Nat)), (17, .slice A1 o2.length c1), (18, .slice A2 o2.length c2)]) (fun _ => row 63 2 (.slice A2 o2.length c2) o2.length (firedV o2) :: rw m (toOf S.now n) rs' sq :: row 63 2 (.slice A1 o2.length c1) o2.length (firedV o2) :: fkw x S' :: fr) (fun i => i ≤ o2.length) (fun i => o2.length - i) 0 (Nat.zero_le _) ⟨rfl, rfl, rfl, trivial⟩ (Ent.cons (Ent.cons (Ent.cons (Ent.cons Ent.drop)))) ?_
              rintro i hi
              refine At.seq ?_
              refine At.seq ?_
              refine At.region ?_
              refine L.mv rfl rfl ?_
              refine L.mv rfl rfl ?_
              refine L.pure rfl (ev_lenS rfl rfl) ?_
              refine L.pure rfl (ev_lss rfl rfl rfl) ?_
              refine L.nil ?_
              refine At.then ?_
              refine At.condD rfl (fun c126 => ?_) (fun c126 => ?_)
              ·
                have hlt : i < o2.length := by omega
                obtain ⟨xo, hxo⟩ : ∃ xo, o2[i]? = some xo := ⟨o2[i], by simp [hlt]⟩
                obtain ⟨g1, rfl⟩ : ∃ g, A1 = some ⟨g, 0, none⟩ := by
                  cases A1 with
                  | none => have := (hnil1 rfl).1; omega
                  | some ad => obtain ⟨g, rfl⟩ := hform1 ad rfl; exact ⟨g, rfl⟩
                obtain ⟨g2, rfl⟩ : ∃ g, A2 = some ⟨g, 0, none⟩ := by
                  cases A2 with
                  | none => have := (hnil2 rfl).1; omega
                  | some ad => obtain ⟨g, rfl⟩ := hform2 ad rfl; exact ⟨g, rfl⟩
                refine At.skip ?_
                refine At.then ?_
                refine At.seq ?_
                refine At.block ?_
                refine At.seq ?_
                refine Dr.start rfl ?_
                refine Dr.p 0 rfl rfl (by kernel_rfl) (ev_move rfl) ?_
                refine Dr.p 1 rfl rfl (by kernel_rfl) (ev_move rfl) ?_
                refine Dr.p 2 rfl rfl (by kernel_rfl) (ev_ixN (z := 2) rfl rfl rfl rfl hlt) ?_
                refine Dr.ld 3 rfl rfl (by kernel_rfl) (ev_loadN (vs := [.int .i64 xo.1, .int .u64 xo.2]) rfl rfl rfl rfl) (rowIn (.tail (.tail (.head))) (fun j u hj => by rw [Nat.zero_add]; exact fired_at hxo j u hj)) ?_
                refine Dr.p 4 rfl rfl (by kernel_rfl) (ev_move rfl) ?_
                refine Dr.p 5 rfl rfl (by kernel_rfl) (ev_move rfl) ?_
                refine Dr.p 6 rfl rfl (by kernel_rfl) (ev_ixN (z := 2) rfl rfl rfl rfl hlt) ?_
                refine Dr.ld 7 rfl rfl (by kernel_rfl) (ev_loadN (vs := [.int .i64 xo.1, .int .u64 xo.2]) rfl rfl rfl rfl) (rowIn .head (fun j u hj => by rw [Nat.zero_add]; exact fired_at hxo j u hj)) ?_
                refine Dr.p 8 rfl rfl (by kernel_rfl) (ev_neqStruct (r := false) (by kernel_rfl) (by kernel_rfl) (by kernel_rfl) rfl rfl rfl (by simp)) ?_
                refine Dr.done (by kernel_rfl) ?_
                refine At.then ?_
                refine At.condF rfl ?_
                refine At.skip ?_
                refine At.inBlock (At.then ?_)
                refine At.region ?_
                refine L.mv rfl rfl ?_
                refine L.pure rfl (ev_add (r := ((i + 1 : Nat) : Int)) rfl rfl (by rw [w64 (by have := hR'.len; have := hP.len; have := h.len; rw [List.length_map] at *; omega)]; omega)) ?_
                refine L.as rfl rfl ?_
                refine L.nil ?_
                exact At.round (i + 1) hlt (by omega) ⟨rfl, rfl, rfl, trivial⟩ (Ent.refl _)
              ·
                refine At.exit ?_
                refine At.thenExit (At.roundExit (At.inBlockHit (At.inBlock (At.then ?_))))
                refine At.seq ?_
                refine At.region ?_
                refine L.as rfl rfl ?_
                refine L.nil ?_
                refine At.then ?_
                refine At.ret ?_
                exact At.ret1 [fkw x S', rw m (toOf S.now n) rs' sq] rfl rfl ⟨rfl, S', rs', sq, ⟨hI', hR', hL⟩, by omega, by omega, by rw [hn']⟩ ((Ent.sel2 (.tail (.tail (.tail (.head)))) (.tail (.head))).trans (Ent.cons (Ent.cons (Ent.drop.trans Ent.drop))))
          ·
            refine At.skip ?_
            refine At.inBlock (At.then ?_)
            refine At.seq ?_
            refine At.region ?_
            refine L.as rfl rfl ?_
            refine L.nil ?_
            refine At.then ?_
            refine At.ret ?_
            exact At.ret1 [fkw x S, rw m S.now rs sq] rfl rfl ⟨rfl, S, rs, sq, h, by omega, by omega, rfl⟩ Ent.drop
  -- unused hints: ['nojoin r25']
end Go.Proofs.YtagkobkmaigfcaaDoor
