/- The engine's oldest, Room. -/
import Derived.Test.YtmeegfamopaljaaGreatDoorFiQ
import Derived.Test.YtmeegfamopaljaaGreatDoorFiP
import Derived.Test.YtmeegfamopaljaaGreatDoorFiH
import Derived.Test.YtmeegfamopaljaaGreatDoorFiG
namespace Go.Proofs.YtmeegfamopaljaaGreatDoor
open Go Go.RowKit Go.SL
variable {G : Env → Prop}
section
variable {E : Env} {l r : List HP} {p : EA} {L : List (Nat × FK.Rn)}
theorem run_cellX {i : Nat} {x : Nat × FK.Rn} {v : Value} (s : Sel (runsX p L) l r) (hx : x ∈ L) (hv : (runC (p.ra x.1) x.2)[i]? = some v) : ∀ w, Holds E w l → CellIs ⟨p.fb x.1, i, none⟩ v w := fun w hw => by
  obtain ⟨F1, _, _, _, _, hp, _⟩ := (hw.sel s).star
  have h1 : Star w (runsL p L) F1 := hp
  have h2 : (runX (p.fb x.1) (p.ra x.1) x.2).sat w F1 := Star.mem h1 (List.mem_map.2 ⟨x, hx, rfl⟩)
  have h3 : Star w (runL (p.fb x.1) (p.ra x.1) x.2) F1 := h2
  have h4 : (runB (p.fb x.1) (p.ra x.1) x.2).sat w F1 := Star.mem h3 (by simp)
  have := h4.2
  simp only [CellIs, World.cell?, this]
  exact hv
theorem rangedIs {K : Type} {enc : K → Value} {it b : Nat} {m left : List (K × Value)} {cur : Option (K × Value)} (s : Sel (ranging enc it b m left cur) l r) : ∀ w, Holds E w l → VMapIs enc b m w := fun w hw => by
  obtain ⟨es, c, _, a1, a2, a3, a4, _⟩ := rangeIs s w hw
  exact ⟨es, c, a1, a2, a3, a4⟩
end
theorem runs_mem {S : FK.En} {p : EA} {x : Nat × FK.Rn} (h : x ∈ S.runs) : vassoc (runM S p) x.1 = some (ptr (p.fb x.1)) := by
  unfold runM
  rw [vassoc_map S.runs (fun k _ => ptr (p.fb k)) x.1]
  cases hf : S.runs.find? (·.1 == x.1) with
  | none => exact absurd (List.find?_eq_none.1 hf x h) (by simp)
  | some y => rfl
abbrev oldL (e : Nat) (p : EA) (S : FK.En) (it : Nat) (left : List (Nat × FK.Rn)) (cur : Option (Nat × Value)) : List HP := [HP.pure (EngOk S), ringE e (ecOf S p) S.queue, ranging natV it p.rm (runM S p) (left.map fun r => (r.1, ptr (p.fb r.1))) cur, runsX p S.runs, vmap natV p.tm (taskM S), wheelE p.w S.now S.sets S.tms]
set_option maxRecDepth 10000 in
set_option maxHeartbeats 1000000 in
theorem oldest_does {e : Nat} {p : EA} {S : FK.En} : Does Tryz.prog G 154 [ptr e].toArray [engX e p S] fun v m => (∃ o, FK.IsOld S o ∧ v = .tuple #[natV ((o.map (·.1)).getD 0), .bool o.isSome]) ∧ m = [engX e p S] := by
  refine Does.body Tryz.func154 rfl rfl fun E fr hE => ?_
  refine At.app1 ?_
  refine At.seq ?_
  refine At.region ?_
  refine L.as rfl rfl ?_
  refine L.as rfl rfl ?_
  refine L.nil ?_
  refine At.then ?_
  refine At.seq ?_
  refine At.seq ?_
  refine At.ent (Ent.unall (m := engL e p S)) ?_
  show At E _ _ _ (HP.pure (EngOk S) :: ringE e (ecOf S p) S.queue :: vmap natV p.rm (runM S p) :: runsX p S.runs :: vmap natV p.tm (taskM S) :: wheelE p.w S.now S.sets S.tms :: fr) _
  refine At.region ?_
  refine L.mv rfl rfl ?_
  refine L.nc rfl rfl ?_
  refine L.fa 1 rfl rfl rfl ?_
  refine L.val rfl (ev_load1 (v := .map (some p.rm)) rfl rfl) (ecCell fun _ _ _ => rfl) ?_
  refine L.op rfl (o_range (b := p.rm) rfl rfl rfl (.tail (.tail .head)) fun it => ?_)
  refine L.nil ?_
  refine At.then ?_
  refine At.block ?_
  refine At.loop (X := List (Nat × FK.Rn) × Option (Nat × Value) × Option (Nat × FK.Rn)) (fun x => [(10, .pointer (some ⟨it, 0, none⟩)), (2, natV ((x.2.2.map (·.1)).getD 0)), (3, .bool x.2.2.isSome), (0, ptr e)]) (fun x => oldL e p S it x.1 x.2.1 ++ fr) (fun x => (∀ r ∈ x.1, r ∈ S.runs) ∧ (∀ r ∈ S.runs, r ∈ x.1 ∨ (0 < r.2.ended → ∃ m, x.2.2 = some m ∧ m.2.ended ≤ r.2.ended)) ∧ ∀ m, x.2.2 = some m → m ∈ S.runs ∧ 0 < m.2.ended) (fun x => x.1.length) (S.runs, none, none) ⟨fun _ h => h, fun _ h => .inl h, fun _ h => by cases h⟩ ⟨rfl, rfl, rfl, rfl, trivial⟩ (Ent.sel3 (.tail .head) (.tail .head) .head) ?_
  rintro ⟨left, cur, o⟩ ⟨hin, hsee, ho⟩
  replace hin : ∀ r ∈ left, r ∈ S.runs := hin
  replace hsee : ∀ r ∈ S.runs, r ∈ left ∨ (0 < r.2.ended → ∃ m, o = some m ∧ m.2.ended ≤ r.2.ended) := hsee
  replace ho : ∀ m, o = some m → m ∈ S.runs ∧ 0 < m.2.ended := ho
  refine At.ent (l' := HP.pure (EngOk S) :: ringE e (ecOf S p) S.queue :: ranging natV it p.rm (runM S p) (left.map fun r => (r.1, ptr (p.fb r.1))) cur :: runsX p S.runs :: vmap natV p.tm (taskM S) :: wheelE p.w S.now S.sets S.tms :: fr) (Ent.refl _) ?_
  refine At.seq ?_
  by_cases HL : left = []
  ·
    subst HL
    refine At.region ?_
    refine L.op rfl (o_next rfl rfl (.tail (.tail .head)) (fun _ => ?_) (fun j q hj => by simp at hj))
    refine L.ex rfl rfl rfl ?_
    refine L.nil ?_
    refine At.then ?_
    refine At.seq ?_
    refine At.condF rfl ?_
    refine At.exit ?_
    refine At.thenExit (At.roundExit (At.inBlockHit (At.then ?_)))
    refine At.seq ?_
    refine At.region ?_
    refine L.mv rfl rfl ?_
    refine L.mv rfl rfl ?_
    refine L.as rfl rfl ?_
    refine L.as rfl rfl ?_
    refine L.nil ?_
    refine At.then ?_
    refine At.ret ?_
    exact At.ret2 [engX e p S] rfl rfl rfl ⟨⟨o, ⟨ho, fun r hr h => (by rcases hsee r hr with h' | h'; cases h'; exact h' h)⟩, rfl⟩, rfl⟩ ((Ent.ranged.trans (Ent.sel2 (.tail .head) (.tail .head))).trans (Ent.all (m := engL e p S)))
  ·
    refine At.region ?_
    refine L.op rfl (o_next rfl rfl (.tail (.tail .head)) (fun h => absurd (List.map_eq_nil_iff.1 h) HL) (fun j q hj => ?_))
    obtain ⟨x, hx, rfl⟩ : ∃ x, left[j]? = some x ∧ (x.1, ptr (p.fb x.1)) = q := by
      rw [List.getElem?_map] at hj
      cases hl : left[j]? with
      | none => rw [hl] at hj; cases hj
      | some x => rw [hl] at hj; injection hj with hj; exact ⟨x, rfl, hj⟩
    have hxS := hin x (List.mem_of_getElem? hx)
    have hjl := (List.getElem?_eq_some_iff.1 hx).1
    rw [← map_erase]
    refine L.ex rfl rfl rfl ?_
    refine L.nil ?_
    refine At.then ?_
    refine At.seq ?_
    refine At.condT rfl ?_
    refine At.skip ?_
    refine At.then ?_
    refine At.block ?_
    refine At.seq ?_
    refine At.region ?_
    refine L.val rfl (ev_entry (p := (x.1, ptr (p.fb x.1))) rfl) (rangeIs .head) ?_
    refine L.ex rfl rfl rfl ?_
    refine L.ex rfl rfl rfl ?_
    refine L.as rfl rfl ?_
    refine L.as rfl rfl ?_
    refine L.nil ?_
    refine At.then ?_
    refine At.seq ?_
    by_cases HA : 0 < x.2.ended
    ·
      by_cases HB : o = none
      ·
        subst HB
        refine Dr.start rfl ?_
        refine Dr.p 0 rfl rfl (by kernel_rfl) (ev_move rfl) ?_
        refine Dr.p 1 rfl rfl (by kernel_rfl) (ev_nil rfl) ?_
        refine Dr.p 2 rfl rfl (by kernel_rfl) (ev_field (off := 4) rfl rfl) ?_
        refine Dr.ld 3 rfl rfl (by kernel_rfl) (ev_load1 (v := .int .u64 x.2.ended) rfl rfl) (run_cellX (.tail (.tail (.tail .head))) hxS rfl) ?_
        refine Dr.p 4 rfl rfl (by kernel_rfl) (ev_gtr rfl rfl (decide_eq_true (by omega))) ?_
        refine Dr.p 5 rfl rfl (by kernel_rfl) (ev_move rfl) ?_
        refine Dr.gp 6 rfl rfl rfl rfl (by kernel_rfl) (ev_move rfl) ?_
        refine Dr.gp 7 rfl rfl rfl rfl (by kernel_rfl) (ev_not rfl rfl) ?_
        refine Dr.gp 8 rfl rfl rfl rfl (by kernel_rfl) (ev_move rfl) ?_
        refine Dr.skip 9 rfl rfl rfl rfl rfl rfl rfl (by kernel_rfl) ?_
        refine Dr.skip 10 rfl rfl rfl rfl rfl rfl rfl (by kernel_rfl) ?_
        refine Dr.skip 11 rfl rfl rfl rfl rfl rfl rfl (by kernel_rfl) ?_
        refine Dr.skip 12 rfl rfl rfl rfl rfl rfl rfl (by kernel_rfl) ?_
        refine Dr.skip 13 rfl rfl rfl rfl rfl rfl rfl (by kernel_rfl) ?_
        refine Dr.skip 14 rfl rfl rfl rfl rfl rfl rfl (by kernel_rfl) ?_
        refine Dr.skip 15 rfl rfl rfl rfl rfl rfl rfl (by kernel_rfl) ?_
        refine Dr.skip 16 rfl rfl rfl rfl rfl rfl rfl (by kernel_rfl) ?_
        refine Dr.skip 17 rfl rfl rfl rfl rfl rfl rfl (by kernel_rfl) ?_
        refine Dr.skip 18 rfl rfl rfl rfl rfl rfl rfl (by kernel_rfl) ?_
        refine Dr.skip 19 rfl rfl rfl rfl rfl rfl rfl (by kernel_rfl) ?_
        refine Dr.skip 20 rfl rfl rfl rfl rfl rfl rfl (by kernel_rfl) ?_
        refine Dr.skip 21 rfl rfl rfl rfl rfl rfl rfl (by kernel_rfl) ?_
        refine Dr.skip 22 rfl rfl rfl rfl rfl rfl rfl (by kernel_rfl) ?_
        refine Dr.gp 23 rfl rfl rfl rfl (by kernel_rfl) (ev_pick rfl rfl rfl) ?_
        refine Dr.p 24 rfl rfl (by kernel_rfl) (ev_pick rfl rfl rfl) ?_
        refine Dr.done (by kernel_rfl) ?_
        refine At.then ?_
        refine At.condT rfl ?_
        refine At.region ?_
        refine L.mv rfl rfl ?_
        refine L.as rfl rfl ?_
        refine L.as rfl rfl ?_
        refine L.nil ?_
        refine At.inBlock ?_
        exact At.round (left.eraseIdx j, some (x.1, ptr (p.fb x.1)), some x) ⟨fun r hr => hin r ((List.eraseIdx_sublist _ _).subset hr), fun r hr => (by
          rcases hsee r hr with h | h
          · rcases FK.mem_erase hx h with rfl | h
            · exact .inr fun _ => ⟨r, rfl, Nat.le_refl _⟩
            · exact .inl h
          · exact .inr fun h' => (by obtain ⟨m, hm, _⟩ := h h'; cases hm)), fun m hm => (by injection hm with hm; subst hm; exact ⟨hxS, HA⟩)⟩ (by show (left.eraseIdx j).length < left.length; rw [List.length_eraseIdx, if_pos hjl]; omega) ⟨rfl, rfl, rfl, rfl, trivial⟩ (Ent.sel2 (.tail .head) (.tail .head))
      ·
        obtain ⟨m, rfl⟩ := Option.ne_none_iff_exists'.1 HB
        obtain ⟨hmS, hm0⟩ := ho m rfl
        refine Dr.start rfl ?_
        refine Dr.p 0 rfl rfl (by kernel_rfl) (ev_move rfl) ?_
        refine Dr.p 1 rfl rfl (by kernel_rfl) (ev_nil rfl) ?_
        refine Dr.p 2 rfl rfl (by kernel_rfl) (ev_field (off := 4) rfl rfl) ?_
        refine Dr.ld 3 rfl rfl (by kernel_rfl) (ev_load1 (v := .int .u64 x.2.ended) rfl rfl) (run_cellX (.tail (.tail (.tail .head))) hxS rfl) ?_
        refine Dr.p 4 rfl rfl (by kernel_rfl) (ev_gtr rfl rfl (decide_eq_true (by omega))) ?_
        refine Dr.p 5 rfl rfl (by kernel_rfl) (ev_move rfl) ?_
        refine Dr.gp 6 rfl rfl rfl rfl (by kernel_rfl) (ev_move rfl) ?_
        refine Dr.gp 7 rfl rfl rfl rfl (by kernel_rfl) (ev_not rfl rfl) ?_
        refine Dr.gp 8 rfl rfl rfl rfl (by kernel_rfl) (ev_move rfl) ?_
        refine Dr.gp 9 rfl rfl rfl rfl (by kernel_rfl) (ev_move rfl) ?_
        refine Dr.gp 10 rfl rfl rfl rfl (by kernel_rfl) (ev_nil rfl) ?_
        refine Dr.gp 11 rfl rfl rfl rfl (by kernel_rfl) (ev_field (off := 4) rfl rfl) ?_
        refine Dr.gl 12 rfl rfl rfl rfl (by kernel_rfl) (ev_load1 (v := .int .u64 x.2.ended) rfl rfl) (run_cellX (.tail (.tail (.tail .head))) hxS rfl) ?_
        refine Dr.gp 13 rfl rfl rfl rfl (by kernel_rfl) (ev_move rfl) ?_
        refine Dr.gp 14 rfl rfl rfl rfl (by kernel_rfl) (ev_nil rfl) ?_
        refine Dr.gp 15 rfl rfl rfl rfl (by kernel_rfl) (ev_field (off := 1) rfl rfl) ?_
        refine Dr.gl 16 rfl rfl rfl rfl (by kernel_rfl) (ev_load1 (v := .map (some p.rm)) rfl rfl) (ecCell fun _ _ _ => rfl) ?_
        refine Dr.gp 17 rfl rfl rfl rfl (by kernel_rfl) (ev_move rfl) ?_
        refine Dr.gl 18 rfl rfl rfl rfl (by kernel_rfl) (ev_vget (a := m.1) (v := ptr (p.fb m.1)) rfl natKey rfl rfl (runs_mem hmS)) (rangedIs .head) ?_
        refine Dr.gp 19 rfl rfl rfl rfl (by kernel_rfl) (ev_nil rfl) ?_
        refine Dr.gp 20 rfl rfl rfl rfl (by kernel_rfl) (ev_field (off := 4) rfl rfl) ?_
        refine Dr.gl 21 rfl rfl rfl rfl (by kernel_rfl) (ev_load1 (v := .int .u64 m.2.ended) rfl rfl) (run_cellX (.tail (.tail (.tail .head))) hmS rfl) ?_
        refine Dr.gp 22 rfl rfl rfl rfl (by kernel_rfl) (ev_lss rfl rfl rfl) ?_
        refine Dr.gp 23 rfl rfl rfl rfl (by kernel_rfl) (ev_pick rfl rfl rfl) ?_
        refine Dr.p 24 rfl rfl (by kernel_rfl) (ev_pick rfl rfl rfl) ?_
        refine Dr.done (by kernel_rfl) ?_
        refine At.then ?_
        refine At.condD rfl (fun c40 => ?_) (fun c40 => ?_)
        ·
          refine At.region ?_
          refine L.mv rfl rfl ?_
          refine L.as rfl rfl ?_
          refine L.as rfl rfl ?_
          refine L.nil ?_
          refine At.inBlock ?_
          have c40' : x.2.ended < m.2.ended := by omega
          exact At.round (left.eraseIdx j, some (x.1, ptr (p.fb x.1)), some x) ⟨fun r hr => hin r ((List.eraseIdx_sublist _ _).subset hr), fun r hr => (by
            rcases hsee r hr with h | h
            · rcases FK.mem_erase hx h with rfl | h
              · exact .inr fun _ => ⟨r, rfl, Nat.le_refl _⟩
              · exact .inl h
            · exact .inr fun h' => (by obtain ⟨m', hm, hle⟩ := h h'; injection hm with hm; subst hm; exact ⟨x, rfl, by omega⟩)), fun m hm => (by injection hm with hm; subst hm; exact ⟨hxS, HA⟩)⟩ (by show (left.eraseIdx j).length < left.length; rw [List.length_eraseIdx, if_pos hjl]; omega) ⟨rfl, rfl, rfl, rfl, trivial⟩ (Ent.sel2 (.tail .head) (.tail .head))
        ·
          refine At.skip ?_
          refine At.inBlock ?_
          have c40' : ¬ x.2.ended < m.2.ended := by omega
          exact At.round (left.eraseIdx j, some (x.1, ptr (p.fb x.1)), some m) ⟨fun r hr => hin r ((List.eraseIdx_sublist _ _).subset hr), fun r hr => (by
            rcases hsee r hr with h | h
            · rcases FK.mem_erase hx h with rfl | h
              · exact .inr fun _ => ⟨m, rfl, by omega⟩
              · exact .inl h
            · exact .inr h), fun m' hm => ho m' hm⟩ (by show (left.eraseIdx j).length < left.length; rw [List.length_eraseIdx, if_pos hjl]; omega) ⟨rfl, rfl, rfl, rfl, trivial⟩ (Ent.sel2 (.tail .head) (.tail .head))
    ·
      refine Dr.start rfl ?_
      refine Dr.p 0 rfl rfl (by kernel_rfl) (ev_move rfl) ?_
      refine Dr.p 1 rfl rfl (by kernel_rfl) (ev_nil rfl) ?_
      refine Dr.p 2 rfl rfl (by kernel_rfl) (ev_field (off := 4) rfl rfl) ?_
      refine Dr.ld 3 rfl rfl (by kernel_rfl) (ev_load1 (v := .int .u64 x.2.ended) rfl rfl) (run_cellX (.tail (.tail (.tail .head))) hxS rfl) ?_
      refine Dr.p 4 rfl rfl (by kernel_rfl) (ev_gtr rfl rfl (decide_eq_false (by omega))) ?_
      refine Dr.p 5 rfl rfl (by kernel_rfl) (ev_move rfl) ?_
      refine Dr.skip 6 rfl rfl rfl rfl rfl rfl rfl (by kernel_rfl) ?_
      refine Dr.skip 7 rfl rfl rfl rfl rfl rfl rfl (by kernel_rfl) ?_
      refine Dr.skip 8 rfl rfl rfl rfl rfl rfl rfl (by kernel_rfl) ?_
      refine Dr.skip 9 rfl rfl rfl rfl rfl rfl rfl (by kernel_rfl) ?_
      refine Dr.skip 10 rfl rfl rfl rfl rfl rfl rfl (by kernel_rfl) ?_
      refine Dr.skip 11 rfl rfl rfl rfl rfl rfl rfl (by kernel_rfl) ?_
      refine Dr.skip 12 rfl rfl rfl rfl rfl rfl rfl (by kernel_rfl) ?_
      refine Dr.skip 13 rfl rfl rfl rfl rfl rfl rfl (by kernel_rfl) ?_
      refine Dr.skip 14 rfl rfl rfl rfl rfl rfl rfl (by kernel_rfl) ?_
      refine Dr.skip 15 rfl rfl rfl rfl rfl rfl rfl (by kernel_rfl) ?_
      refine Dr.skip 16 rfl rfl rfl rfl rfl rfl rfl (by kernel_rfl) ?_
      refine Dr.skip 17 rfl rfl rfl rfl rfl rfl rfl (by kernel_rfl) ?_
      refine Dr.skip 18 rfl rfl rfl rfl rfl rfl rfl (by kernel_rfl) ?_
      refine Dr.skip 19 rfl rfl rfl rfl rfl rfl rfl (by kernel_rfl) ?_
      refine Dr.skip 20 rfl rfl rfl rfl rfl rfl rfl (by kernel_rfl) ?_
      refine Dr.skip 21 rfl rfl rfl rfl rfl rfl rfl (by kernel_rfl) ?_
      refine Dr.skip 22 rfl rfl rfl rfl rfl rfl rfl (by kernel_rfl) ?_
      refine Dr.skip 23 rfl rfl rfl rfl rfl rfl rfl (by kernel_rfl) ?_
      refine Dr.p 24 rfl rfl (by kernel_rfl) (ev_pick rfl rfl rfl) ?_
      refine Dr.done (by kernel_rfl) ?_
      refine At.then ?_
      refine At.condF rfl ?_
      refine At.skip ?_
      refine At.inBlock ?_
      exact At.round (left.eraseIdx j, some (x.1, ptr (p.fb x.1)), o) ⟨fun r hr => hin r ((List.eraseIdx_sublist _ _).subset hr), fun r hr => (by
        rcases hsee r hr with h | h
        · rcases FK.mem_erase hx h with rfl | h
          · exact .inr fun h => absurd h HA
          · exact .inl h
        · exact .inr h), ho⟩ (by show (left.eraseIdx j).length < left.length; rw [List.length_eraseIdx, if_pos hjl]; omega) ⟨rfl, rfl, rfl, rfl, trivial⟩ (Ent.sel2 (.tail .head) (.tail .head))
set_option maxRecDepth 10000 in
theorem room_does {e : Nat} {p : EA} {S : FK.En} : Does Tryz.prog G 94 [ptr e].toArray [engX e p S] fun v m => v = .bool (S.runs.any (fun r => decide (0 < r.2.ended)) || decide (S.runs.length < 6)) ∧ m = [engX e p S] := by
  refine Does.body Tryz.func94 rfl rfl fun E fr hE => ?_
  refine At.app1 ?_
  refine At.seq ?_
  refine At.region ?_
  refine L.as rfl rfl ?_
  refine L.nil ?_
  refine At.then ?_
  refine At.seq ?_
  refine At.region ?_
  refine L.mv rfl rfl ?_
  refine L.op rfl (o_call rfl rfl rfl hE oldest_does (Ent.refl _) ?_)
  rintro v m ⟨⟨o, ho, rfl⟩, rfl⟩
  refine At.app1 ?_
  refine L.mv rfl rfl ?_
  refine L.ex rfl rfl rfl ?_
  refine L.ex rfl rfl rfl ?_
  refine L.as rfl rfl ?_
  refine L.as rfl rfl ?_
  refine L.nil ?_
  refine At.then ?_
  refine At.seq ?_
  by_cases HO : o = none
  ·
    subst HO
    have hany : (S.runs.any fun r => decide (0 < r.2.ended)) = false := by
      rw [List.any_eq_false]
      intro r hr
      simp only [decide_eq_true_eq]
      intro h
      obtain ⟨m, hm, _⟩ := ho.2 r hr h
      cases hm
    refine At.region ?_
    refine L.mv rfl rfl ?_
    refine L.mv rfl rfl ?_
    refine L.on rfl rfl rfl (L.vala rfl (ev_move rfl) (fun _ _ => trivial) ?_)
    refine L.on rfl rfl rfl (L.vala rfl (ev_nil rfl) (fun _ _ => trivial) ?_)
    refine L.on rfl rfl rfl (L.vala rfl (ev_field (off := 1) rfl rfl) (fun _ _ => trivial) ?_)
    refine L.on rfl rfl rfl (L.vala rfl (ev_load1 (v := .map (some p.rm)) rfl rfl) (eng_cell fun _ _ _ => rfl) ?_)
    refine L.on rfl rfl rfl (L.vala rfl (ev_vlen (m := runM S p) rfl rfl) eng_runs ?_)
    refine L.on rfl rfl rfl (L.vala rfl (ev_lss (r := decide (S.runs.length < 6)) rfl rfl (by rw [List.length_map]; exact decide_eq_decide.2 (by omega))) (fun _ _ => trivial) ?_)
    refine L.pure rfl (ev_pick rfl rfl rfl) ?_
    refine L.as rfl rfl ?_
    refine L.nil ?_
    refine At.then ?_
    refine At.ret ?_
    exact At.ret1 [engX e p S] rfl rfl ⟨by rw [hany]; rfl, rfl⟩ (Ent.refl _)
  ·
    obtain ⟨x, rfl⟩ := Option.ne_none_iff_exists'.1 HO
    obtain ⟨hx, hx0⟩ := ho.1 x rfl
    have hany : (S.runs.any fun r => decide (0 < r.2.ended)) = true := by
      rw [List.any_eq_true]
      exact ⟨x, hx, by simpa using hx0⟩
    refine At.region ?_
    refine L.mv rfl rfl ?_
    refine L.mv rfl rfl ?_
    refine L.off rfl rfl rfl rfl rfl rfl ?_
    refine L.off rfl rfl rfl rfl rfl rfl ?_
    refine L.off rfl rfl rfl rfl rfl rfl ?_
    refine L.off rfl rfl rfl rfl rfl rfl ?_
    refine L.off rfl rfl rfl rfl rfl rfl ?_
    refine L.off rfl rfl rfl rfl rfl rfl ?_
    refine L.pure rfl (ev_pick rfl rfl rfl) ?_
    refine L.as rfl rfl ?_
    refine L.nil ?_
    refine At.then ?_
    refine At.ret ?_
    exact At.ret1 [engX e p S] rfl rfl ⟨by rw [hany]; rfl, rfl⟩ (Ent.refl _)
end Go.Proofs.YtmeegfamopaljaaGreatDoor

namespace Go.Proofs.YtmeegfamopaljaaGreatDoor
open Go Go.RowKit Go.SL
open FK (upd upd_at upd_off)
variable {G : Env → Prop}
theorem runM_erase (S : FK.En) (p : EA) (id : Nat) : (runM S p).eraseP (·.1 == id) = runM (S.unrun id) p := by
  unfold runM FK.En.unrun
  rw [List.eraseP_map]
  rfl
theorem Ent.sub : ∀ {a b : List HP} {r : List HP}, b.Sublist a → Ent (a ++ r) (b ++ r)
  | _, _, _, .slnil => Ent.refl _
  | _ :: _, _, _, .cons _ h => Ent.drop.trans (Ent.sub h)
  | _ :: _, _, _, .cons_cons _ h => Ent.cons (Ent.sub h)
theorem runsX_sub {p : EA} {L M : List (Nat × FK.Rn)} {r : List HP} (h : M.Sublist L) : Ent (runsX p L :: r) (runsX p M :: r) :=
  (Ent.unall (m := runsL p L)).trans ((Ent.sub (h.map _)).trans (Ent.all (m := runsL p M)))
section
variable {P : Program} {E : Env} {n : Nat} {D : List Deferred} {ts : List (Nat × Value)} {l r : List HP} {Q : Exit → Act → World → Prop} {ty : TypeId} {pos : String} {af : Array Edge} {g : Option (Nat × Bool)} {t : TypeId} {x y z : Operand} {e : Nat} {p : EA} {S : FK.En} {K : Act → World → Prop}
theorem o_delRun [H : HasEng l e p S r] {id : Nat} {t kt et : TypeId} {d : Option Tmp} (hd : d = none) (ht : P.underlying t = some (.map kt et)) (hk : KeyK P kt Nat natV) (hx : ev ts x = some (.map (some p.rm))) (hy : ev ts y = some (natV id))
    (h : At E n D ts (engX e p (S.unrun id) :: r) K) : At E n D ts l (fun ac w => (Oper.mk d (.call { callee := .builtin .delete, args := #[x, y], argTypes := #[t, kt] }) ty pos af g).wp P ac w K Q) := by
  refine At.fact (p := EngOk S) (fun w hw => eng_ok hw) fun hn => ?_
  refine At.ent (Ent.sel H.sel) (At.openAll ?_)
  show At E n D ts (HP.pure (EngOk S) :: ringE e (ecOf S p) S.queue :: vmap natV p.rm (runM S p) :: runsX p S.runs :: vmap natV p.tm (taskM S) :: wheelE p.w S.now S.sets S.tms :: r) _
  refine o_vdel (b := p.rm) (a := id) hd ht hk hx hy (.tail (.tail .head)) ?_
  rw [runM_erase]
  refine At.ent ?_ h
  refine Ent.trans ?_ (Ent.all (m := engL e p (S.unrun id)))
  have hn' : EngOk (S.unrun id) := hn.sublist ((List.eraseP_sublist).map _)
  refine (Ent.drop1 (.tail .head)).trans ((Ent.sel (.tail .head)).trans ((Ent.cons (Ent.cons (runsX_sub (M := (S.unrun id).runs) List.eraseP_sublist))).trans ?_))
  exact Ent.pure hn'
def EA.add (p : EA) (id b : Nat) (a : RA) : EA := { p with fb := upd p.fb id b, ra := upd p.ra id a }
theorem o_addRun {id b : Nat} {a : RA} {R : FK.Rn} {t kt et : TypeId} {d : Option Tmp} (hd : d = none) (ht : P.underlying t = some (.map kt et)) (hk : KeyK P kt Nat natV) (hx : ev ts x = some (.map (some p.rm))) (hy : ev ts y = some (natV id)) (hz : ev ts z = some (ptr b)) (hn : ∀ r ∈ S.runs, r.1 ≠ id)
    (h : At E n D ts (engX e (p.add id b a) { S with runs := S.runs ++ [(id, R)] } :: r) K) : At E n D ts (runX b a R :: engX e p S :: r) (fun ac w => (Oper.mk d (.mapUpdate t x y z) ty pos af g).wp P ac w K Q) := by
  refine At.fact (p := EngOk S) (fun w hw => eng_ok (l := runX b a R :: engX e p S :: r) hw) fun hok => ?_
  refine At.ent (Ent.sel (.tail .head)) (At.openAll ?_)
  show At E n D ts (HP.pure (EngOk S) :: ringE e (ecOf S p) S.queue :: vmap natV p.rm (runM S p) :: runsX p S.runs :: vmap natV p.tm (taskM S) :: wheelE p.w S.now S.sets S.tms :: runX b a R :: r) _
  have hv : vassoc (runM S p) id = none := by
    refine runs_none ?_
    unfold FK.En.getR
    cases hf : S.runs.find? (·.1 == id) with
    | none => rfl
    | some u => exact absurd (by simpa using List.find?_some hf) (hn u (List.mem_of_find?_eq_some hf))
  refine o_vnew (b := p.rm) (a := id) (v := ptr b) hd ht hk hx hy hz (.tail (.tail .head)) hv ?_
  refine At.ent ?_ h
  have hM : runM S p ++ [(id, ptr b)] = runM { S with runs := S.runs ++ [(id, R)] } (p.add id b a) := by
    unfold runM
    rw [List.map_append]
    have h1 : (S.runs.map fun r => (r.1, ptr (p.fb r.1))) = S.runs.map fun r => (r.1, ptr ((p.add id b a).fb r.1)) := List.map_congr_left fun r hr => by
      show _ = (r.1, ptr (upd p.fb id b r.1))
      rw [upd_off _ _ (hn r hr)]
    rw [h1]
    show _ = _ ++ [(id, ptr (upd p.fb id b id))]
    rw [upd_at]
  have hL : runsL p S.runs ++ [runX b a R] = runsL (p.add id b a) (S.runs ++ [(id, R)]) := by
    unfold runsL
    rw [List.map_append]
    have h1 : (S.runs.map fun r => runX (p.fb r.1) (p.ra r.1) r.2) = S.runs.map fun r => runX ((p.add id b a).fb r.1) ((p.add id b a).ra r.1) r.2 := List.map_congr_left fun r hr => by
      show _ = runX (upd p.fb id b r.1) (upd p.ra id a r.1) r.2
      rw [upd_off _ _ (hn r hr), upd_off _ _ (hn r hr)]
    rw [h1]
    show _ = _ ++ [runX (upd p.fb id b id) (upd p.ra id a id) R]
    rw [upd_at, upd_at]
  have hok' : EngOk { S with runs := S.runs ++ [(id, R)] } := by
    unfold EngOk
    rw [List.map_append, List.nodup_append]
    refine ⟨hok, by simp, fun u hu v hv => ?_⟩
    obtain ⟨r, hr, rfl⟩ := List.mem_map.1 hu
    simp at hv
    subst hv
    exact hn r hr
  rw [hM]
  refine Ent.trans ?_ (Ent.all (m := engL e (p.add id b a) { S with runs := S.runs ++ [(id, R)] }))
  have hX : Ent (runX b a R :: runsX p S.runs :: vmap natV p.tm (taskM S) :: wheelE p.w S.now S.sets S.tms :: r) (runsX (p.add id b a) (S.runs ++ [(id, R)]) :: vmap natV p.tm (taskM S) :: wheelE p.w S.now S.sets S.tms :: r) := by
    refine (Ent.cons (Ent.unall (m := runsL p S.runs))).trans ?_
    have hp : (runX b a R :: (runsL p S.runs ++ (vmap natV p.tm (taskM S) :: wheelE p.w S.now S.sets S.tms :: r))).Perm (runsL (p.add id b a) (S.runs ++ [(id, R)]) ++ (vmap natV p.tm (taskM S) :: wheelE p.w S.now S.sets S.tms :: r)) := by
      rw [← hL, List.append_assoc]
      exact List.perm_middle.symm
    exact (Ent.perm hp).trans (Ent.all (m := runsL (p.add id b a) (S.runs ++ [(id, R)])))
  refine (Ent.drop1 (.tail .head)).trans ?_
  refine (Ent.sel3 (.tail .head) .head (.tail (.tail (.tail .head)))).trans ?_
  exact (Ent.pure hok').trans (Ent.cons (Ent.cons (Ent.cons hX)))
end
end Go.Proofs.YtmeegfamopaljaaGreatDoor

namespace Go.Proofs.YtmeegfamopaljaaGreatDoor
open Go Go.RowKit Go.SL
variable {G : Env → Prop}
def p0 (rm tm w : Nat) : EA := ⟨rm, tm, w, fun _ => 0, fun _ => ⟨0, 0, 0, 0, []⟩⟩
theorem ring0 : FK.RingOk 0 0 [] (fun _ => ⟨0, 0, 0⟩) := ⟨Nat.le_refl _, Nat.zero_le _, .inr ⟨rfl, rfl⟩, fun k p h => by simp at h⟩
set_option maxRecDepth 10000 in
theorem new_eng : Does Tryz.prog G 106 [].toArray [] fun v m => ∃ e p, v = ptr e ∧ m = [engX e p FK.En.fresh] := by
  refine Does.body Tryz.func106 rfl rfl fun E fr hE => ?_
  refine At.app0 ?_
  refine At.seq ?_
  refine At.region ?_
  refine L.as rfl rfl ?_
  refine L.nil ?_
  refine At.then ?_
  refine At.seq ?_
  refine At.region ?_
  refine L.op rfl (o_makeVMap natV rfl fun rm => ?_)
  refine L.op rfl (o_makeVMap natV rfl fun tm => ?_)
  refine L.op rfl (o_call rfl rfl rfl hE (new_does 0) (Ent.refl _) ?_)
  rintro v m ⟨w, rfl, rfl⟩
  refine At.app1 ?_
  refine L.pure rfl (ev_build (cs := engC ⟨0, rm, tm, w, 0, 0, 0⟩ (.slice none 0 0) 0 0) rfl rfl rfl rfl rfl) ?_
  refine L.op rfl (o_box rfl rfl fun e => ?_)
  refine L.as rfl rfl ?_
  refine L.nil ?_
  refine At.then ?_
  refine At.ret ?_
  refine At.ret1 [engX e (p0 rm tm w) FK.En.fresh] rfl rfl ⟨e, p0 rm tm w, rfl, rfl⟩ ?_
  have hw : Ent (wheelAt w (WS0 0) :: fr) (wheelE w 0 0 [] :: fr) := (Ent.pure (⟨rfl, Nat.le_refl _, inv0 (by omega), rfl⟩ : WOk 0 0 [] (WS0 0))).trans ((Ent.all (m := [HP.pure (WOk 0 0 [] (WS0 0)), wheelAt w (WS0 0)])).trans (Ent.ex (f := fun W : FK.WS => HP.all [HP.pure (WOk 0 0 [] W), wheelAt w W]) (WS0 0)))
  refine (Ent.sel3 .head (.tail (.tail .head)) (.tail .head)).trans ?_
  refine Ent.trans (b := engB e ⟨0, rm, tm, w, 0, 0, 0⟩ (.slice none 0 0) 0 0 :: vmap natV rm [] :: vmap natV tm [] :: wheelE w 0 0 [] :: fr) (Ent.cons (Ent.cons (Ent.cons hw))) ?_
  refine Ent.trans (Ent.cons (Ent.row0 (e := 268) (size := 3))) ?_
  refine (Ent.closeRing (e := e) (C := ⟨0, rm, tm, w, 0, 0, 0⟩) (q := []) (N := 0) (f := 0) (rg := fun _ => ⟨0, 0, 0⟩) ring0).trans ?_
  refine Ent.trans (b := ringE e ⟨0, rm, tm, w, 0, 0, 0⟩ [] :: vmap natV rm [] :: runsX (p0 rm tm w) [] :: vmap natV tm [] :: wheelE w 0 0 [] :: fr) (Ent.cons (Ent.cons (Ent.all (m := [])))) ?_
  exact (Ent.pure (show EngOk FK.En.fresh from List.nodup_nil)).trans (Ent.all (m := engL e (p0 rm tm w) FK.En.fresh))
theorem cut_same {S T : FK.En} (h : FK.Cut S T) : T.now = S.now ∧ T.seed = S.seed ∧ T.tms = S.tms ∧ T.sets = S.sets ∧ T.queue = S.queue ∧ T.lastRun = S.lastRun ∧ T.runs.Sublist S.runs := by
  unfold FK.Cut at h
  split at h
  · obtain ⟨o, _, rfl⟩ := h
    cases o with
    | none => exact ⟨rfl, rfl, rfl, rfl, rfl, rfl, List.Sublist.refl _⟩
    | some m => exact ⟨rfl, rfl, rfl, rfl, rfl, rfl, List.eraseP_sublist⟩
  · subst h; exact ⟨rfl, rfl, rfl, rfl, rfl, rfl, List.Sublist.refl _⟩
def stepsK (n k : Nat) : List FK.Sp := List.replicate k FK.s1 ++ List.replicate (n - k) FK.s0
theorem stepsK_len {n k : Nat} (h : k ≤ n) : (stepsK n k).length = n := by simp [stepsK]; omega
theorem stepsK_at {n k : Nat} (h : k < n) : (stepsK n k)[k]? = some FK.s0 := by
  unfold stepsK
  rw [List.getElem?_append_right (by simp), List.length_replicate, Nat.sub_self, List.getElem?_replicate, if_pos (by omega)]
theorem stepsK_set {n k : Nat} (h : k < n) : (stepsK n k).set k FK.s1 = stepsK n (k + 1) := by
  unfold stepsK
  rw [List.set_append_right _ _ (by simp), List.length_replicate, Nat.sub_self]
  obtain ⟨m, hm⟩ : ∃ m, n - k = m + 1 := ⟨n - k - 1, by omega⟩
  rw [hm, List.replicate_succ, List.set_cons_zero, show n - (k + 1) = m by omega, List.replicate_succ', List.append_assoc]
  rfl
theorem spV_zero (n : Nat) : ((List.range n).flatMap fun _ => spL FK.s0) = spV (stepsK n 0) := by
  unfold spV stepsK
  rw [List.flatMap_def, List.flatMap_def]
  congr 1
  simp only [List.replicate_zero, List.nil_append, Nat.sub_zero, List.map_replicate]
  apply List.ext_getElem <;> simp
set_option maxRecDepth 10000 in
set_option maxHeartbeats 2000000 in
theorem submit_does {e : Nat} {p : EA} {S : FK.En} {fl : FK.Flow} {nv : Value} (hn1 : 1 ≤ fl.nodes.length) (hn2 : fl.nodes.length ≤ 100) (hfit : FitA fl) (hd0 : 0 ≤ fl.deadline) (hd : fl.deadline ≤ 4611686018427387904) (hnow : S.now ≤ 4611686018427387904) (hq : S.queue.length ≤ 300) (hl : S.tms.length ≤ 99998) (hsets : S.sets < 9223372036854775807) (hids : ∀ r ∈ S.runs, r.1 ≤ S.lastRun) (hlr : S.lastRun < 9223372036854775807) :
    Does Tryz.prog G 97 [ptr e, .agg #[.int .i64 fl.deadline, nv]].toArray [engX e p S, nodesOwn nv fl.nodes] fun v m => ∃ S0 p', FK.Cut S S0 ∧ v = natV (S.lastRun + 1) ∧ m = [engX e p' (S0.submit fl)] := by
  have hlat : ∀ (T : FK.En) n, T.now ≤ 4611686018427387904 → T.now ≤ T.later n := fun T n h => by unfold FK.En.later; omega
  have hlat2 : ∀ (T : FK.En) n, T.later n ≤ 4611686018427387904 := fun T n => by unfold FK.En.later; omega
  refine Does.body Tryz.func97 rfl rfl fun E fr hE => ?_
  refine At.app2 ?_
  refine At.openNodes (.tail .head) fun vs hvs => ?_
  refine At.formRow .head ?_
  rintro A c rfl a1 a2 a3 a4 _
  obtain ⟨gn, rfl⟩ : ∃ g, A = some ⟨g, 0, none⟩ := by
    cases A with
    | none => have := (a1 rfl).1; omega
    | some ad => obtain ⟨g, rfl⟩ := a2 ad rfl; exact ⟨g, rfl⟩
  refine At.ent (Ent.cons (Ent.all (m := aftsAt vs fl.nodes))) ?_
  refine At.ent (l' := row 46 7 (.slice (some ⟨gn, 0, none⟩) fl.nodes.length c) fl.nodes.length (nodesV fl.nodes vs) :: aftsAll vs fl.nodes :: engX e p S :: fr) (Ent.refl _) ?_
  refine At.seq ?_
  refine At.region ?_
  refine L.op rfl (o_box rfl rfl fun b3 => ?_)
  refine L.as rfl rfl ?_
  refine L.nil ?_
  refine At.then ?_
  refine At.seq (At.cut (X := FK.En) (fun _ => [(0, ptr e), (3, ptr b3)]) (fun T => engX e p T :: blk b3 29 #[.int .i64 fl.deadline, .slice (some ⟨gn, 0, none⟩) fl.nodes.length c] :: row 46 7 (.slice (some ⟨gn, 0, none⟩) fl.nodes.length c) fl.nodes.length (nodesV fl.nodes vs) :: aftsAll vs fl.nodes :: fr) (fun T => FK.Cut S T) ?_ ?_)
  ·
    refine At.seq ?_
    refine At.region ?_
    refine L.mv rfl rfl ?_
    refine L.nc rfl rfl ?_
    refine L.fa 1 rfl rfl rfl ?_
    refine L.val rfl (ev_load1 (v := .map (some p.rm)) rfl rfl) (eng_cell fun _ _ _ => rfl) ?_
    refine L.val rfl (ev_vlen (m := runM S p) rfl rfl) eng_runs ?_
    refine L.pure rfl (ev_eql (r := decide (S.runs.length = 6)) rfl rfl (by rw [List.length_map]; exact decide_eq_decide.2 (by omega))) ?_
    refine L.nil ?_
    refine At.then ?_
    refine At.condD rfl (fun c14 => ?_) (fun c14 => ?_)
    ·
      refine At.seq ?_
      refine At.region ?_
      refine L.mv rfl rfl ?_
      refine L.op rfl (o_call rfl rfl rfl hE oldest_does (Ent.sel (.tail (.tail (.tail (.head))))) ?_)
      rintro v m ⟨⟨o, ho, rfl⟩, rfl⟩
      refine At.app1 ?_
      refine L.mv rfl rfl ?_
      refine L.ex rfl rfl rfl ?_
      refine L.ex rfl rfl rfl ?_
      refine L.as rfl rfl ?_
      refine L.as rfl rfl ?_
      refine L.nil ?_
      refine At.then ?_
      refine At.seq ?_
      by_cases HO : o = none
      ·
        subst HO
        refine At.region ?_
        refine L.mv rfl rfl ?_
        refine L.nil ?_
        refine At.then ?_
        refine At.condF rfl ?_
        refine At.skip ?_
        exact At.meet S (by unfold FK.Cut; rw [if_pos c14]; exact ⟨none, ho, rfl⟩) ⟨rfl, rfl, trivial⟩ (Ent.refl _)
      ·
        obtain ⟨x, rfl⟩ := Option.ne_none_iff_exists'.1 HO
        refine At.region ?_
        refine L.mv rfl rfl ?_
        refine L.nil ?_
        refine At.then ?_
        refine At.condT rfl ?_
        refine At.region ?_
        refine L.mv rfl rfl ?_
        refine L.nc rfl rfl ?_
        refine L.fa 1 rfl rfl rfl ?_
        refine L.val rfl (ev_load1 (v := .map (some p.rm)) rfl rfl) (eng_cell fun _ _ _ => rfl) ?_
        refine L.mv rfl rfl ?_
        refine L.op rfl (o_delRun (id := x.1) rfl rfl natKey rfl rfl ?_)
        refine L.nil ?_
        exact At.meet (S.unrun x.1) (by unfold FK.Cut; rw [if_pos c14]; exact ⟨some x, ho, rfl⟩) ⟨rfl, rfl, trivial⟩ (Ent.refl _)
    ·
      refine At.skip ?_
      exact At.meet S (by unfold FK.Cut; rw [if_neg c14]) ⟨rfl, rfl, trivial⟩ (Ent.sel (.tail (.tail (.tail .head))))
  intro T hT
  obtain ⟨k1, k2, k3, k4, k5, k6, k7⟩ := cut_same hT
  have hidT : ∀ r ∈ T.runs, r.1 ≤ T.lastRun := fun r hr => by rw [k6]; exact hids r (k7.subset hr)
  refine At.ent (l' := engX e p T :: blk b3 29 #[.int .i64 fl.deadline, .slice (some ⟨gn, 0, none⟩) fl.nodes.length c] :: row 46 7 (.slice (some ⟨gn, 0, none⟩) fl.nodes.length c) fl.nodes.length (nodesV fl.nodes vs) :: aftsAll vs fl.nodes :: fr) (Ent.refl _) ?_
  refine At.seq ?_
  refine At.region ?_
  refine L.mv rfl rfl ?_
  refine L.nc rfl rfl ?_
  refine L.fa 7 rfl rfl rfl ?_
  refine L.val rfl (ev_load1 (v := .int .u64 T.lastRun) rfl rfl) (eng_cell fun _ _ _ => rfl) ?_
  refine L.pure rfl (ev_add (r := ((T.lastRun + 1 : Nat) : Int)) rfl rfl (by rw [mu64]; omega)) ?_
  refine L.nc rfl rfl ?_
  refine L.fa 7 rfl rfl rfl ?_
  refine L.op rfl (o_stEng (S := T) (S' := { T with lastRun := T.lastRun + 1 }) rfl rfl rfl (by omega) rfl (fun _ _ _ => rfl) rfl rfl rfl rfl rfl rfl ?_)
  refine L.nil ?_
  refine At.then ?_
  refine At.seq ?_
  refine Dr.start rfl ?_
  refine Dr.ld 0 rfl rfl (by kernel_rfl) (ev_loadN (vs := [.int .i64 fl.deadline, .slice (some ⟨gn, 0, none⟩) fl.nodes.length c]) rfl rfl rfl rfl) (rowAll rfl) ?_
  refine Dr.p 1 rfl rfl (by kernel_rfl) (ev_field (off := 1) rfl rfl) ?_
  refine Dr.ld 2 rfl rfl (by kernel_rfl) (ev_load1 rfl rfl) (cellIs rfl) ?_
  refine Dr.p 3 rfl rfl (by kernel_rfl) (ev_lenS rfl rfl) ?_
  refine Dr.run 4 rfl rfl (by kernel_rfl) (o_makeN (zc := spL FK.s0) rfl rfl infoSp rfl rfl (by omega) rfl (by omega) (by omega) fun gs => ?_)
  refine Dr.kept [true, true] (by kernel_rfl) (Kept.cons (cellIs rfl) (Kept.cons (rowAll rfl) Kept.nil)) ?_
  refine Dr.p 5 rfl rfl (by kernel_rfl) (ev_build (cs := #[.int .i64 fl.deadline, .slice (some ⟨gn, 0, none⟩) fl.nodes.length c, .int .i64 1, .slice (some ⟨gs, 0, none⟩) fl.nodes.length fl.nodes.length, .int .u64 0]) rfl rfl rfl rfl rfl) ?_
  refine Dr.run 6 rfl rfl (by kernel_rfl) (o_box rfl rfl fun rb => ?_)
  refine Dr.kept [true, true] (by kernel_rfl) (Kept.cons (cellIs rfl) (Kept.cons (rowAll rfl) Kept.nil)) ?_
  refine Dr.p 7 rfl rfl (by kernel_rfl) (ev_assign rfl) ?_
  refine Dr.done (by kernel_rfl) ?_
  refine At.then ?_
  refine At.seq ?_
  refine At.seq ?_
  refine At.ent (l' := row 265 3 (.slice (some ⟨gs, 0, none⟩) fl.nodes.length fl.nodes.length) fl.nodes.length (spV (stepsK fl.nodes.length 0)) :: blk rb 263 #[.int .i64 fl.deadline, .slice (some ⟨gn, 0, none⟩) fl.nodes.length c, .int .i64 1, .slice (some ⟨gs, 0, none⟩) fl.nodes.length fl.nodes.length, .int .u64 0] :: engX e p { T with lastRun := T.lastRun + 1 } :: blk b3 29 #[.int .i64 fl.deadline, .slice (some ⟨gn, 0, none⟩) fl.nodes.length c] :: row 46 7 (.slice (some ⟨gn, 0, none⟩) fl.nodes.length c) fl.nodes.length (nodesV fl.nodes vs) :: aftsAll vs fl.nodes :: fr) ?_ ?_
  · refine (Ent.sel (.tail .head)).trans (Ent.closeRow (Nat.le_refl _) (show fl.nodes.length ≤ 9223372036854775807 by omega) (by rw [List.size_toArray, flatx_len (k := 3) (fun _ => rfl), List.length_range]) ?_)
    rw [List.toList_toArray, spV_zero, List.take_of_length_le (by rw [spV_len, stepsK_len (Nat.zero_le _)]; omega)]
  refine At.region ?_
  refine L.mv rfl rfl ?_
  refine L.nc rfl rfl ?_
  refine L.fa 3 rfl rfl rfl ?_
  refine L.ld rfl rfl rfl rfl ?_
  refine L.pure rfl (ev_lenS rfl rfl) ?_
  refine L.mv rfl rfl ?_
  refine L.nil ?_
  refine At.then ?_
  refine At.block ?_
  refine At.loop (X := Nat) (fun k => [(45, .int .i64 k), (44, .int .i64 fl.nodes.length), (7, ptr rb), (0, ptr e), (3, ptr b3)]) (fun k => row 265 3 (.slice (some ⟨gs, 0, none⟩) fl.nodes.length fl.nodes.length) fl.nodes.length (spV (stepsK fl.nodes.length k)) :: blk rb 263 #[.int .i64 fl.deadline, .slice (some ⟨gn, 0, none⟩) fl.nodes.length c, .int .i64 1, .slice (some ⟨gs, 0, none⟩) fl.nodes.length fl.nodes.length, .int .u64 0] :: engX e p { T with lastRun := T.lastRun + 1 } :: blk b3 29 #[.int .i64 fl.deadline, .slice (some ⟨gn, 0, none⟩) fl.nodes.length c] :: row 46 7 (.slice (some ⟨gn, 0, none⟩) fl.nodes.length c) fl.nodes.length (nodesV fl.nodes vs) :: aftsAll vs fl.nodes :: fr) (fun k => k ≤ fl.nodes.length) (fun k => fl.nodes.length - k) 0 (Nat.zero_le _) ⟨rfl, rfl, rfl, rfl, rfl, trivial⟩ (Ent.refl _) ?_
  intro k hk
  refine At.seq ?_
  refine At.region ?_
  refine L.pure rfl (ev_lss rfl rfl rfl) ?_
  refine L.nil ?_
  refine At.then ?_
  refine At.seq ?_
  refine At.condD rfl (fun c46 => ?_) (fun c46 => ?_)
  ·
    have hlt : k < fl.nodes.length := by omega
    refine At.skip ?_
    refine At.then ?_
    refine At.seq ?_
    refine At.block ?_
    refine At.seq ?_
    refine At.region ?_
    refine L.mv rfl rfl ?_
    refine L.as rfl rfl ?_
    refine L.nil ?_
    refine At.then ?_
    refine At.region ?_
    refine L.mv rfl rfl ?_
    refine L.nc rfl rfl ?_
    refine L.fa 3 rfl rfl rfl ?_
    refine L.ld rfl rfl rfl rfl ?_
    refine L.mv rfl rfl ?_
    refine L.pure rfl (ev_ixN (z := 3) rfl rfl rfl rfl hlt) ?_
    refine L.fa 0 rfl rfl rfl ?_
    refine L.op rfl (o_storeRow .head rfl rfl rfl rfl (by omega) ?_)
    rw [show 0 + k * 3 + 0 = 0 + k * 3 + 0 from rfl, spV_set1 (j := 0) (s' := FK.s1) (stepsK_at hlt) (by omega) rfl, stepsK_set hlt]
    refine L.nil ?_
    refine At.inBlock (At.then ?_)
    refine At.region ?_
    refine L.pure rfl (ev_add (r := ((k + 1 : Nat) : Int)) rfl rfl (by rw [w64 (by omega)]; omega)) ?_
    refine L.mv rfl rfl ?_
    refine L.nil ?_
    exact At.round (k + 1) hlt (by omega) ⟨rfl, rfl, rfl, rfl, rfl, trivial⟩ (Ent.refl _)
  ·
    have hke : k = fl.nodes.length := by omega
    subst hke
    have hst : stepsK fl.nodes.length fl.nodes.length = (FK.Rn.begun fl).steps := by unfold stepsK FK.Rn.begun; simp
    rw [hst]
    refine At.exit ?_
    refine At.thenExit (At.roundExit (At.inBlockHit (At.then ?_)))
    refine At.seq ?_
    have hnl : (FK.Rn.begun fl).steps.length = fl.nodes.length := by unfold FK.Rn.begun; simp
    refine At.ent (l' := runX rb ⟨gn, c, gs, fl.nodes.length, vs⟩ (FK.Rn.begun fl) :: engX e p { T with lastRun := T.lastRun + 1 } :: blk b3 29 #[.int .i64 fl.deadline, .slice (some ⟨gn, 0, none⟩) fl.nodes.length c] :: fr) ?_ ?_
    · refine Ent.trans ?_ (Ent.all (m := runL rb ⟨gn, c, gs, fl.nodes.length, vs⟩ (FK.Rn.begun fl)))
      unfold runL RA.sv RA.nv runB runC RA.sv RA.nv
      rw [hnl]
      refine (Ent.sel3 (.tail .head) (.tail (.tail (.tail .head))) (.tail (.tail (.tail .head)))).trans ?_
      exact Ent.pure hvs
    refine Dr.start rfl ?_
    refine Dr.p 0 rfl rfl (by kernel_rfl) (ev_move rfl) ?_
    refine Dr.p 1 rfl rfl (by kernel_rfl) (ev_nil rfl) ?_
    refine Dr.p 2 rfl rfl (by kernel_rfl) (ev_field (off := 1) rfl rfl) ?_
    refine Dr.ld 3 rfl rfl (by kernel_rfl) (ev_load1 rfl rfl) (eng_cell fun _ _ _ => rfl) ?_
    refine Dr.p 4 rfl rfl (by kernel_rfl) (ev_move rfl) ?_
    refine Dr.p 5 rfl rfl (by kernel_rfl) (ev_nil rfl) ?_
    refine Dr.p 6 rfl rfl (by kernel_rfl) (ev_field (off := 7) rfl rfl) ?_
    refine Dr.ld 7 rfl rfl (by kernel_rfl) (ev_load1 rfl rfl) (eng_cell fun _ _ _ => rfl) ?_
    refine Dr.p 8 rfl rfl (by kernel_rfl) (ev_move rfl) ?_
    refine Dr.run 9 rfl rfl (by kernel_rfl) (o_addRun (id := T.lastRun + 1) (b := rb) (a := ⟨gn, c, gs, fl.nodes.length, vs⟩) (R := FK.Rn.begun fl) rfl rfl natKey rfl rfl rfl (fun r hr => by have := hidT r hr; omega) ?_)
    refine Dr.kept [false, false] (by kernel_rfl) Kept.nil ?_
    refine Dr.done (by kernel_rfl) ?_
    refine At.then ?_
    refine At.seq ?_
    obtain ⟨p', hp'⟩ : ∃ p', p' = p.add (T.lastRun + 1) rb ⟨gn, c, gs, fl.nodes.length, vs⟩ := ⟨_, rfl⟩
    rw [← hp']
    refine At.ent (l' := engX e p' (T.begin fl) :: blk b3 29 #[.int .i64 fl.deadline, .slice (some ⟨gn, 0, none⟩) fl.nodes.length c] :: fr) (Ent.refl _) ?_
    have hB1 : (T.begin fl).now = S.now := k1
    have hB2 : (T.begin fl).sets = S.sets := k4
    have hB3 : (T.begin fl).tms = S.tms := k3
    refine Dr.start rfl ?_
    refine Dr.p 0 rfl rfl (by kernel_rfl) (ev_move rfl) ?_
    refine Dr.p 1 rfl rfl (by kernel_rfl) (ev_nil rfl) ?_
    refine Dr.p 2 rfl rfl (by kernel_rfl) (ev_field (off := 6) rfl rfl) ?_
    refine Dr.ld 3 rfl rfl (by kernel_rfl) (ev_load1 rfl rfl) (eng_cell fun _ _ _ => rfl) ?_
    refine Dr.p 4 rfl rfl (by kernel_rfl) (ev_move rfl) ?_
    refine Dr.p 5 rfl rfl (by kernel_rfl) (ev_nil rfl) ?_
    refine Dr.p 6 rfl rfl (by kernel_rfl) (ev_field (off := 7) rfl rfl) ?_
    refine Dr.ld 7 rfl rfl (by kernel_rfl) (ev_load1 rfl rfl) (eng_cell fun _ _ _ => rfl) ?_
    refine Dr.p 8 rfl rfl (by kernel_rfl) (ev_build (cs := #[.int .u64 ((T.lastRun + 1 : Nat) : Int), .int .i64 (-1), .int .i64 0]) rfl rfl rfl rfl rfl) ?_
    refine Dr.p 9 rfl rfl (by kernel_rfl) (ev_move rfl) ?_
    refine Dr.p 10 rfl rfl (by kernel_rfl) (ev_field (off := 0) rfl rfl) ?_
    refine Dr.ld 11 rfl rfl (by kernel_rfl) (ev_load1 rfl rfl) (cellIs rfl) ?_
    refine Dr.run 12 rfl rfl (by kernel_rfl) (o_call rfl rfl rfl hE (after_does (S := T.begin fl) fl.deadline (by omega) hd0 hd) (Ent.refl _) ?_)
    rintro v m ⟨rfl, rfl⟩
    refine At.app1 ?_
    refine Dr.kept [false, true, true] (by kernel_rfl) (Kept.cons (eng_cell fun _ _ _ => rfl) (Kept.cons (eng_cell fun _ _ _ => rfl) Kept.nil)) ?_
    refine Dr.run 13 rfl rfl (by kernel_rfl) (o_call rfl rfl rfl hE (set_eng (S := T.begin fl) ⟨T.lastRun + 1, -1, 0⟩ ((T.begin fl).later fl.deadline.toNat) (hlat _ _ (by omega)) (hlat2 _ _) (by omega) (by rw [hB3]; omega)) (Ent.refl _) ?_)
    rintro v m ⟨rfl, rfl⟩
    refine At.app1 ?_
    refine Dr.kept [true, false] (by kernel_rfl) (Kept.cons (eng_cell (S := (T.begin fl).setT ⟨T.lastRun + 1, -1, 0⟩ ((T.begin fl).later fl.deadline.toNat)) fun _ _ _ => rfl) Kept.nil) ?_
    refine Dr.done (by kernel_rfl) ?_
    refine At.then ?_
    refine At.seq ?_
    obtain ⟨U, hU⟩ : ∃ U, U = (T.begin fl).setT ⟨T.lastRun + 1, -1, 0⟩ ((T.begin fl).later fl.deadline.toNat) := ⟨_, rfl⟩
    rw [← hU]
    have hU1 : U.getR (T.lastRun + 1) = some (FK.Rn.begun fl) := by rw [hU]; exact FK.getR_begin hidT
    have hU2 : U.lastRun = T.lastRun + 1 := by rw [hU]; rfl
    have hU3 : U.queue = S.queue := by rw [hU]; exact k5
    refine At.region ?_
    refine L.mv rfl rfl ?_
    refine L.mv rfl rfl ?_
    refine L.nc rfl rfl ?_
    refine L.fa 7 rfl rfl rfl ?_
    refine L.val rfl (ev_load1 (v := .int .u64 ((T.lastRun + 1 : Nat) : Int)) rfl rfl) (eng_cell (S := U) fun _ _ _ => by rw [← hU2]; rfl) ?_
    refine L.op rfl (o_call rfl rfl rfl hE (wake_does (S := U) hU1 hnl hfit hn2 (by rw [hU3]; exact hq)) (Ent.refl _) ?_)
    rintro v m ⟨rfl, rfl⟩
    refine At.app1 ?_
    refine L.nil ?_
    refine At.then ?_
    refine At.seq ?_
    obtain ⟨ws1, ws2, ws3, ws4, ws5, ws6, ws7, ws8⟩ := FK.wake_same U (T.lastRun + 1)
    obtain ⟨V, hV⟩ : ∃ V, V = U.wake (T.lastRun + 1) := ⟨_, rfl⟩
    rw [← hV] at ws7
    rw [← hV]
    refine At.region ?_
    refine L.mv rfl rfl ?_
    refine L.nc rfl rfl ?_
    refine L.fa 7 rfl rfl rfl ?_
    refine L.val rfl (ev_load1 (v := .int .u64 ((T.lastRun + 1 : Nat) : Int)) rfl rfl) (eng_cell (S := V) fun _ _ _ => by rw [← hU2, ← ws7]; rfl) ?_
    refine L.as rfl rfl ?_
    refine L.nil ?_
    refine At.then ?_
    refine At.ret ?_
    have hfin : V = T.submit fl := by rw [hV, hU]; rfl
    exact At.ret1 [engX e p' V] rfl rfl ⟨T, p', hT, by rw [k6], by rw [hfin]⟩ (Ent.cons Ent.drop)
end Go.Proofs.YtmeegfamopaljaaGreatDoor

namespace Go.SL
open Go Go.RowKit
class SelC (p : HP) (l : List HP) (r : outParam (List HP)) : Prop where
  sel : Sel p l r
instance SelC.head {p : HP} {l : List HP} : SelC p (p :: l) l := ⟨.head⟩
instance (priority := low) SelC.tail {p q : HP} {l r : List HP} [h : SelC p l r] : SelC p (q :: l) (q :: r) := ⟨.tail h.sel⟩
class EntC (l m : List HP) : Prop where
  ent : Ent l m
instance (priority := high) EntC.refl {l : List HP} : EntC l l := ⟨Ent.refl l⟩
instance EntC.cons {p : HP} {l r m : List HP} [s : SelC p l r] [h : EntC r m] : EntC l (p :: m) := ⟨(Ent.sel s.sel).trans (Ent.cons h.ent)⟩
instance (priority := low) EntC.drop {x : HP} {l m : List HP} [h : EntC l m] : EntC (x :: l) m := ⟨Ent.drop.trans h.ent⟩
theorem Ent.auto {l m : List HP} [h : EntC l m] : Ent l m := h.ent
class HasVal (v : Value) (l : List HP) (e : outParam TypeId) (size m : outParam Nat) (xs : outParam (List Value)) (r : outParam (List HP)) : Prop where
  sel : Sel (row e size v m xs) l r
instance HasVal.head {v : Value} {e : TypeId} {size m : Nat} {xs : List Value} {l : List HP} : HasVal v (row e size v m xs :: l) e size m xs l := ⟨.head⟩
instance (priority := low) HasVal.tail {v : Value} {e : TypeId} {size m : Nat} {xs : List Value} {l r : List HP} {p : HP} [h : HasVal v l e size m xs r] : HasVal v (p :: l) e size m xs (p :: r) := ⟨.tail h.sel⟩
theorem At.blkAs {E : Env} {n : Nat} {D : List Deferred} {ts : List (Nat × Value)} {l r : List HP} {K : Act → World → Prop} (b : Nat) {tb : TypeId} {cs : Array Value} (cs' : Array Value) [H : Has b l (.cells cs tb) r] (h : cs = cs') (hk : At E n D ts (blk b tb cs' :: r) K) : At E n D ts l K := by
  subst h
  exact At.ent (Ent.sel H.sel) hk
end Go.SL
