/- Walks over maps: each entry once, in whatever order. -/
import Derived.Test.YtmeegfamopaljaaGreatDoorFiK
import Derived.Test.YtmeegfamopaljaaGreatDoorFiH
import Derived.ScopeJumps
import Derived.WalkMore
import Derived.Laws.MakeOwn
import Derived.Laws.BitsAllLaws
import Derived.LoopTactic
import Derived.Deep.OwnRows
import Derived.Deep.LoopGhost
import Derived.Test.YtmeegfamopaljaaGreatDoorFiI
import Derived.Test.YtmeegfamopaljaaGreatDoorFiG
import Derived.Test.YtmeegfamopaljaaGreatDoorFiN
import Derived.Test.YtmeegfamopaljaaGreatDoorFiB
namespace Go.SL
open Go Go.RowKit
open Go.ChangeMaps (setBlock)
def RangeIs {K : Type} (enc : K → Value) (it b : Nat) (m left : List (K × Value)) (cur : Option (K × Value)) (w : World) : Prop :=
  ∃ es clock seen, w.heap[b]? = some (.map es clock) ∧ es.toList.map (fun e => (e.key, e.val)) = m.map (fun p => (enc p.1, p.2)) ∧ (∀ x ∈ es.toList, x.born < clock) ∧ (es.toList.map (·.born)).Nodup ∧
    w.heap[it]? = some (.mapIter (some b) clock seen clock) ∧ (leftOf es seen).toList.map (fun e => (e.key, e.val)) = left.map (fun p => (enc p.1, p.2)) ∧
    ∀ p, cur = some p → ∃ e ∈ es.toList, ∃ s' : Array Nat, seen = s'.push e.born ∧ e.key = enc p.1 ∧ e.val = p.2
def ranging {K : Type} (enc : K → Value) (it b : Nat) (m left : List (K × Value)) (cur : Option (K × Value)) : HP where
  sat w F := (F it ∧ F b) ∧ RangeIs enc it b m left cur w
  loc hFG hk h := ⟨⟨hFG _ h.1.1, hFG _ h.1.2⟩, let ⟨es, c, s, h1, h2, h3, h4, h5, h6⟩ := h.2; ⟨es, c, s, (hk _ h.1.2).trans h1, h2, h3, h4, (hk _ h.1.1).trans h5, h6⟩⟩
theorem Ent.ranged {K : Type} {enc : K → Value} {it b : Nat} {m left : List (K × Value)} {cur : Option (K × Value)} {r : List HP} : Ent (ranging enc it b m left cur :: r) (vmap enc b m :: r) := fun _w _ ⟨F1, F2, h1, h2, hd, hp, hl⟩ =>
  ⟨F1, F2, h1, h2, hd, ⟨hp.1.2, let ⟨es, c, _, a1, a2, a3, a4, _⟩ := hp.2; ⟨es, c, a1, a2, a3, a4⟩⟩, hl⟩
theorem filter_out {α : Type} {f : α → Nat} : ∀ {l : List α} {j : Nat} {e : α}, (l.map f).Nodup → l[j]? = some e → l.filter (fun x => f x != f e) = l.eraseIdx j
  | [], _, _, _, h => by simp at h
  | a :: l, 0, e, hn, h => by
    simp at h; subst h
    rw [List.map_cons, List.nodup_cons] at hn
    simp only [List.eraseIdx_zero, List.tail_cons, List.filter_cons, bne_self_eq_false, Bool.false_eq_true, if_false]
    refine List.filter_eq_self.2 fun x hx => ?_
    have : f x ≠ f a := fun e => hn.1 (e ▸ List.mem_map_of_mem hx)
    simpa using this
  | a :: l, j + 1, e, hn, h => by
    rw [List.map_cons, List.nodup_cons] at hn
    have he : e ∈ l := List.mem_of_getElem? (by simpa using h)
    have : f a ≠ f e := fun q => hn.1 (q ▸ List.mem_map_of_mem he)
    rw [List.filter_cons, if_pos (by simpa using this), List.eraseIdx_cons_succ, filter_out hn.2 (by simpa using h)]
theorem leftOf_push (es : Array MapEntry) (seen : Array Nat) (n : Nat) : (leftOf es (seen.push n)).toList = (leftOf es seen).toList.filter fun e => e.born != n := by
  unfold leftOf
  simp only [Array.toList_filter, List.filter_filter]
  refine List.filter_congr fun e _ => ?_
  by_cases h : e.born = n
  · simp [h]
  · simp [h]
section
variable {P : Program} {E : Env} {n : Nat} {D : List Deferred} {ts : List (Nat × Value)} {l : List HP} {ops : Array Oper} {Q : Exit → Act → World → Prop} {i : Nat} {ty : TypeId} {pos : String} {af : Array Edge} {g : Option (Nat × Bool)} {K : Type} {enc : K → Value}
theorem o_range {t kt et : TypeId} {x : Operand} {b : Nat} {m : List (K × Value)} {r : List HP} {Kk : Act → World → Prop} (hi : Nat.blt i n = true) (ht : P.underlying t = some (.map kt et)) (hx : ev ts x = some (.map (some b))) (s : Sel (vmap enc b m) l r)
    (h : ∀ it, At E n D ((i, .pointer (some ⟨it, 0, none⟩)) :: ts) (ranging enc it b m m none :: r) Kk) : At E n D ts l (fun ac w => (Oper.mk (some i) (.range t x) ty pos af g).wp P ac w Kk Q) := fun ac w f hw => by
  have hw' := hw.sel s
  obtain ⟨es, c, hb, hm, hs1, hs2⟩ := vmapIs .head w hw'
  have hg := MapKept.run_getObj_map (P := P) hb
  have hr : (execOp ac.eval (Oper.mk (some i) (.range t x) ty pos af g)).run P w = .ok (.value (.pointer (some ⟨w.heap.size, 0, none⟩))) (w.alloc (.mapIter (some b) c #[] c)) := by
    have hnew : (newObj (.mapIter (some b) c #[] c)).run P w = .ok w.heap.size (w.alloc (.mapIter (some b) c #[] c)) := rfl
    simp only [execOp, f.eval hx, Instr.range, Sem.run_bind, run_underlying ht, hg, Result.andThen_ok, Sem.run_pure, hnew]
  show (Oper.mk (some i) (.range t x) ty pos af g).wp P ac w Kk Q
  unfold Oper.wp
  rw [hr]
  have h0 := hw'.alloc (.mapIter (some b) c #[] c)
  have hlt : b < w.heap.size := (Array.getElem?_eq_some_iff.1 hb).1
  refine h _ _ _ (f.put i (Nat.le_of_ble_eq_true hi) _) ⟨h0.is, ?_⟩
  obtain ⟨F1, F2, h1, h2, hd, hp, G1, G2, g1, g2, gd, hq, hl⟩ := h0.star
  refine ⟨fun k => F1 k ∨ G1 k, G2, fun k hk => hk.elim (h1 k) (fun hk => h2 k (g1 k hk)), fun k hk => h2 k (g2 k hk), fun k a b => a.elim (fun a => hd k a (g2 k b)) (fun a => gd k a b), ⟨⟨.inl hp.1, .inr hq.1⟩, ?_⟩, hl⟩
  refine ⟨es, c, #[], ?_, hm, hs1, hs2, hp.2, ?_, fun p hp => by cases hp⟩
  · rw [Below.heap_alloc _ _ _ hlt]; exact hb
  · rw [← hm]
    congr 2
    unfold leftOf
    simp
theorem rangeIs {it b : Nat} {m left : List (K × Value)} {cur : Option (K × Value)} {r : List HP} (s : Sel (ranging enc it b m left cur) l r) : ∀ w, Holds E w l → RangeIs enc it b m left cur w := fun w hw => by
  obtain ⟨F1, _, _, _, _, hp, _⟩ := (hw.sel s).star
  exact hp.2
theorem o_next {x : Operand} {it b : Nat} {m left : List (K × Value)} {cur : Option (K × Value)} {r : List HP} {Kk : Act → World → Prop} (hi : Nat.blt i n = true) (hx : ev ts x = some (.pointer (some ⟨it, 0, none⟩))) (s : Sel (ranging enc it b m left cur) l r)
    (h0 : left = [] → At E n D ((i, .tuple #[.bool false]) :: ts) (ranging enc it b m [] none :: r) Kk)
    (h1 : ∀ j p, left[j]? = some p → At E n D ((i, .tuple #[.bool true, enc p.1, p.2]) :: ts) (ranging enc it b m (left.eraseIdx j) (some p) :: r) Kk) :
    At E n D ts l (fun ac w => (Oper.mk (some i) (.next x false) ty pos af g).wp P ac w Kk Q) := fun ac w f hw => by
  have hw' := hw.sel s
  obtain ⟨es, c, seen, hb, hm, hs1, hs2, hr, hl, hc⟩ := rangeIs .head w hw'
  show (Oper.mk (some i) (.next x false) ty pos af g).wp P ac w Kk Q
  rcases run_next_at (P := P) w ty it b c c seen es c hr hb hs1 (Nat.le_refl _) with ⟨hz, hrun⟩ | ⟨e, he, w1, hw1, hrun⟩
  · have hr' : (execOp ac.eval (Oper.mk (some i) (.next x false) ty pos af g)).run P w = .ok (.value (.tuple #[.bool false])) w := by
      simp [execOp, f.eval hx, hrun]
    unfold Oper.wp
    rw [hr']
    have hl0 : left = [] := by
      have := congrArg List.length hl
      rw [List.length_map, List.length_map, Array.length_toList, hz] at this
      exact List.eq_nil_of_length_eq_zero this.symm
    subst hl0
    refine h0 rfl _ _ (f.put i (Nat.le_of_ble_eq_true hi) _) (hw'.ent ?_)
    exact fun w F ⟨F1, F2, a1, a2, a3, hp, a4⟩ => ⟨F1, F2, a1, a2, a3, ⟨hp.1, let ⟨es, c, s, q1, q2, q3, q4, q5, q6, _⟩ := hp.2; ⟨es, c, s, q1, q2, q3, q4, q5, q6, fun p hp => by cases hp⟩⟩, a4⟩
  · have hr' : (execOp ac.eval (Oper.mk (some i) (.next x false) ty pos af g)).run P w = .ok (.value (.tuple #[.bool true, e.key, e.val])) (setBlock w1 it (.mapIter (some b) c (seen.push e.born) c)) := by
      simp [execOp, f.eval hx, hrun]
    unfold Oper.wp
    rw [hr']
    obtain ⟨j, hj⟩ := List.getElem?_of_mem he
    have hlj := congrArg (fun l => l[j]?) hl
    simp only [List.getElem?_map, hj, Option.map_some] at hlj
    obtain ⟨p, hp, hpe⟩ : ∃ p, left[j]? = some p ∧ (e.key, e.val) = (enc p.1, p.2) := by
      cases hq : left[j]? with
      | none => rw [hq] at hlj; cases hlj
      | some p => rw [hq] at hlj; simp only [Option.map_some, Option.some.injEq] at hlj; exact ⟨p, rfl, hlj⟩
    simp only [Prod.mk.injEq] at hpe
    rw [hpe.1, hpe.2]
    have hwm : Holds E w1 (ranging enc it b m left cur :: r) := by
      rcases hw1 with rfl | rfl
      · exact hw'
      · exact hw'.drawn _
    have hee : e ∈ es.toList := by
      unfold leftOf at he
      rw [Array.toList_filter] at he
      exact (List.mem_filter.1 he).1
    have heap1 : w1.heap = w.heap := by rcases hw1 with rfl | rfl <;> rfl
    have hne : it ≠ b := fun q => by rw [q, hb] at hr; cases hr
    refine h1 j p hp _ _ (f.put i (Nat.le_of_ble_eq_true hi) _) ?_
    refine hwm.turn rfl rfl rfl (by simp [setBlock]) fun F1 hF hFr => ⟨F1, fun k hk => ⟨.inl hk, by simpa [setBlock] using (hFr k hk).1⟩, ⟨hF.1, es, c, seen.push e.born, ?_, hm, hs1, hs2, ?_, ?_, ?_⟩, fun k _ hk => ?_⟩
    · show (w1.heap.setIfInBounds it _)[b]? = _
      rw [Array.getElem?_setIfInBounds_ne hne, heap1]; exact hb
    · show (w1.heap.setIfInBounds it _)[it]? = _
      have := (hFr it hF.1.1).1
      simp [this]
    · rw [leftOf_push, filter_out (f := fun e : MapEntry => e.born) ?_ hj, map_erase, hl, ← map_erase]
      unfold leftOf
      rw [Array.toList_filter]
      exact hs2.sublist (List.filter_sublist.map _)
    · intro q hq
      injection hq with hq
      subst hq
      exact ⟨e, hee, seen, rfl, hpe.1, hpe.2⟩
    · have : k ≠ it := fun q => by subst q; exact hk hF.1.1
      show (w1.heap.setIfInBounds it _)[k]? = _
      rw [Array.getElem?_setIfInBounds_ne (Ne.symm this)]
theorem ev_entry {x : Operand} {it b : Nat} {m left : List (K × Value)} {p : K × Value} (hx : ev ts x = some (.pointer (some ⟨it, 0, none⟩))) : Ev P ts (.entry x) (.tuple #[enc p.1, p.2]) (RangeIs enc it b m left (some p)) := by
  intro ac w _ _ _ _ _ kn ⟨es, c, seen, hb, hm, hs1, hs2, hr, hl, hc⟩
  obtain ⟨e, he, s', rfl, hk, hv⟩ := hc p rfl
  have := run_entry_at (P := P) w it b c s' es c e hr hb he hs2
  rw [hk, hv] at this
  simp [execOp, kn.eval hx, this]
end
end Go.SL

namespace Go.Proofs.YtmeegfamopaljaaGreatDoor
open Go Go.RowKit Go.Deep
set_option maxRecDepth 100000 in
set_option maxHeartbeats 4000000 in
theorem flow_Order_calls2 (w : World) (B : Nat) (A : Option Addr) (c : Nat) (l : List FK.Node) (F : FuncId) (cap : Array Value) (I : World → List Nat → Prop) (hB : B ≤ w.heap.size) (hl : l.length ≤ 12)
    (hv : ∀ i, ∀ k ∈ FK.aft l i, k < l.length) (hpos : ∀ n ∈ l, ∀ x ∈ n.after, 0 ≤ x)
    (hF : ∀ (args : Array Value) (W : World), (callFunc F args).run Tryz.prog W = .ok (.enter F args) W) (h0 : I w []) (hI : ∀ W T, I W T → NodesAt W B A c l ∧ Tab W ∧ w.heap.size ≤ W.heap.size)
    (hstab : ∀ W W' T, I W T → Below w.heap.size W W' → I W' T)
    (htell : ∀ W T k, I W T → w.heap.size < W.heap.size → k < l.length → k ∉ T → (∀ j ∈ FK.aft l k, j ∈ T) → Calls Tryz.prog F (#[.int .i64 k] ++ cap) W fun e W' =>
      e = .returned (.tuple #[]) ∧ I W' (T ++ [k]) ∧ W.heap.size ≤ W'.heap.size ∧ ∀ b, w.heap.size ≤ b → b < W.heap.size → W'.heap[b]? = W.heap[b]?) :
    Calls Tryz.prog 139 #[.slice A l.length c, .func (.func F) #[] cap] w (OrdPost I l) := by
  have HN := Lib.hid (hI w [] h0).1
  have H0 := Lib.hid h0
  have HI := Lib.hid hI
  have HS := Lib.hid hstab
  have HT := Lib.hid htell
  have HV := Lib.hid hv
  have HP := Lib.hid hpos
  clear h0 hI hstab htell hv hpos
  have hmk : ∀ W : World, (Instr.makeSlice 310 (.int .i64 (l.length : Int)) (.int .i64 (l.length : Int))).run Tryz.prog W = .ok (.slice (some ⟨W.heap.size, 0, none⟩) l.length l.length) (W.alloc (.cells (needCells l.length (needF l 0 0)) 87)) := fun W => by
    rw [← needF_start]
    exact run_make_row' (P := Tryz.prog) 310 87 (.int .u64 0) 8 Tryz.underlying310 (by kernel_rfl) rfl .i64 .i64 l.length (by omega) (by omega) W
  obtain ⟨left, hleft0⟩ : ∃ x, x = 2 ^ l.length - 1 := ⟨_, rfl⟩
  have hleft : IntKind.u64.wrap (IntKind.u64.wrap (2 ^ l.length) - 1) = (left : Int) := by rw [left_start hl, hleft0]
  have HO0 : Hid (FK.Ordering l left []) := by rw [hleft0]; exact .start l
  clear hleft0
  obtain ⟨T, HT0⟩ : ∃ T : List Nat, Hid (T = []) := ⟨_, rfl⟩
  rw [← HT0.out] at HO0 H0
  go_enter Tryz.func139, Tryz.ntmps139
  go_wp2
  refine wp_scope_jumps 0 (Again w A c l F cap I) (fun a _ => (intOf (a.tmps.getD 4 undef)).toNat) rfl ?_ ?_
  · go_wp2
    go_loopw [21] (fun i wr => ∃ k : Nat, k ≤ l.length ∧ i = .int .i64 k ∧ Blk wr w.heap.size 87 (needCells l.length (needF l k 0)) ∧ Below w.heap.size w wr) (fun i _ => l.length - (intOf i).toNat)
    case atStart => exact ⟨0, by omega, rfl, Blk.made _ _ _, (Below.refl _ _).alloc (Nat.le_refl _) _⟩
    case round =>
      obtain ⟨k, hk, rfl, hblk, hsame⟩ := hrel
      have hlt' := hblk.lt
      by_cases hlt : k < l.length
      · obtain ⟨h1, h2, h3⟩ := HN.out
        obtain ⟨b, off, rfl, hbB, hcell⟩ := h3 (by omega)
        have hnode := (hcell k l[k] (by simp [hlt])).keep (hsame.to_same.mono hB) hbB
        obtain ⟨c0, c1, c2, c3, c4, c5, ⟨A6, n6, c6, hi⟩, hr⟩ := hnode
        have HI6 := Lib.hid hi
        have HBLK := Lib.hid hblk
        have HSAME := Lib.hid hsame
        clear hcell h3 hr hi hblk hsame
        go_wp2
        obtain ⟨wo, rfl⟩ : ∃ wo : World, wo = wr := ⟨_, rfl⟩
        go_loopw [29] (fun i ws => ∃ m : Nat, m ≤ l[k].after.length ∧ i = .int .i64 m ∧ Blk ws w.heap.size 87 (needCells l.length (needF l k m)) ∧ Below w.heap.size w ws) (fun i _ => l[k].after.length - (intOf i).toNat)
        case atStart => exact ⟨0, by omega, rfl, HBLK.out.same (B := wo.heap.size) (fun x hx => Below.heap_alloc _ _ _ hx) hlt', HSAME.out.alloc (by omega) _⟩
        case round =>
          obtain ⟨m, hm, rfl, hblk, hsame⟩ := hrel
          have haft : FK.aft l k = l[k].after.map Int.toNat := FK.aft_of (by simp [hlt])
          by_cases hmlt : m < l[k].after.length
          · have hback : Same B wo wr := fun x hx => (hsame.block x (by omega)).trans (HSAME.out.block x (by omega)).symm
            obtain ⟨b6, o6, hA6, hb6, hc6⟩ := (HI6.out.keep hback).cells (by omega)
            have hxm := hc6 m l[k].after[m] (by simp [hmlt])
            have hx0 : 0 ≤ l[k].after[m] := HP.out l[k] (List.getElem_mem _) _ (List.getElem_mem _)
            have hx1 := HV.out k l[k].after[m].toNat (by rw [haft]; exact List.mem_map_of_mem (List.getElem_mem _))
            obtain ⟨xn, hxn⟩ : ∃ xn : Nat, l[k].after[m] = (xn : Int) := ⟨l[k].after[m].toNat, by omega⟩
            have hget : (FK.aft l k)[m]? = some xn := by rw [haft, List.getElem?_map, List.getElem?_eq_getElem hmlt, hxn]; simp
            rw [hxn] at hxm hx0 hx1
            simp only [Int.toNat_natCast] at hx1
            have hlt1 : needF l k m k < 18446744073709551616 := Nat.lt_of_lt_of_le (needF_lt (n := 12) fun i x hx => by have := HV.out i x hx; omega) (by decide)
            have hlt2 : 2 ^ xn < 18446744073709551616 := Nat.lt_of_lt_of_le (Nat.pow_lt_pow_right (n := 12) (by omega) (by omega)) (by decide)
            have hcell : wr.cell? ⟨w.heap.size, k, none⟩ = some (.int .u64 (needF l k m k : Nat)) := by rw [hblk.cell]; exact needCells_at hlt
            have hfree : wr.frozen? ⟨w.heap.size, k, none⟩ = false := hblk.free k
            have hsh : IntKind.u64.wrap (2 ^ xn) = 2 ^ xn := shl_u64 (by omega)
            have hor : bits BinOp.or IntKind.u64 ((needF l k m k : Nat) : Int) (2 ^ xn) = ((needF l k (m + 1) k : Nat) : Int) := by
              have := bits_or_u64_nat (needF l k m k) (2 ^ xn) hlt1 hlt2
              rw [needF_step hget, Nat.one_shiftLeft, ← this]; simp
            have HB := Lib.hid hblk
            have HS2 := Lib.hid hsame
            have hsz := hblk.lt
            have hal := HI6.out.len
            have hac := HI6.out.cap
            subst hA6
            clear haft hback hc6 hxn hget hlt1 hlt2 hblk hsame
            go_wp2
            go_region
            go_wp2
            go_roundw
            case rel => exact ⟨m + 1, by omega, by go_num, needBlk_put HB.out fun x hx => needF_other hx, (by repeat (first | exact HS2.out | refine below_drewN ?_ _ | refine Below.drew ?_ | refine Below.alloc ?_ (by first | omega | (simp; done) | (simp; omega)) _ | refine Below.setCell ?_ (by first | omega | (simp; done) | (simp; omega)) _))⟩
            case measure => simp [intOf]; omega
          · have HB := Lib.hid hblk
            have HS2 := Lib.hid hsame
            have hsz := hblk.lt
            have HN2 := Lib.hid (needF_next (l := l) (i := k) (m := m) (by rw [haft]; simp; omega))
            clear haft hblk hsame
            go_wp2
            go_roundw
            case rel => exact ⟨k + 1, by omega, by go_num, by rw [← HN2.out]; exact HB.out, HS2.out⟩
            case measure => simp [intOf]; omega
      · obtain rfl : k = l.length := by omega
        have hi := HS.out w wr T H0.out hsame
        have ho := HO0.out
        go_wp2
        go_step3
        go_wp2
        have hl4 := ordering_lt ho hl
        have HI1 := Lib.hid hi
        have HO := Lib.hid ho
        have HB := Lib.hid hblk
        have hsz := hblk.lt
        clear hi ho hblk
        go_loop [4, 10] (fun s t => ∃ wv : Nat, s = .int .u64 left ∧ t = .int .u64 wv ∧ Asked l left wv ∧ wv < 4096) (fun _ t => (intOf t).toNat)
        case atStart => exact ⟨left, rfl, rfl, .start _ _, hl4⟩
        case round =>
          obtain ⟨wv, rfl, rfl, hask, hw4⟩ := hrel
          have HASK := Lib.hid hask
          clear hask
          by_cases hz : wv = 0
          · have hne : ((wv : Int) != 0) = false := by simp [hz]
            have HZ := Lib.hid hz
            clear hz
            go_wp2
            simp only [Exit.jump]
            go_ret
            exact ⟨left, T, rfl, HI1.out, HO.out, fun i hi => (HASK.out.2 i hi).resolve_left (by rw [HZ.out]; simp)⟩
          · obtain ⟨t1, t2, t3⟩ := ctz_low wv (by omega) hz
            have HTZ := Lib.hid (tz_calls wv (by omega) hz wr (HI.out _ _ HI1.out).2.1)
            have hne : ((wv : Int) != 0) = true := by simp; omega
            generalize Lib.ctz 64 wv = t at HTZ t1 t2 t3
            have htl : left.testBit t = true := HASK.out.1 t t1
            have htn : t < l.length := ((HO.out.bits t).1 htl).1
            have hnf : needF l l.length 0 t = FK.mask (FK.aft l t) := by simp [needF, htn]
            obtain ⟨nf, hnfe⟩ : ∃ nf, nf = needF l l.length 0 t := ⟨_, rfl⟩
            have hnf4 : nf < 4096 := by rw [hnfe]; exact needF_lt (n := 12) fun i x hx => by have := HV.out i x hx; omega
            have hcell : wr.cell? ⟨w.heap.size, t, none⟩ = some (.int .u64 (nf : Nat)) := by rw [HB.out.cell, hnfe]; exact needCells_at htn
            have hzero := FK.mask_and_zero (FK.aft l t) left
            rw [← hnf, ← hnfe] at hzero
            have HZERO := Lib.hid hzero
            have T1 := Lib.hid t1
            have T2 := Lib.hid t2
            have TL := Lib.hid htl
            have HZ := Lib.hid hz
            by_cases hb : nf &&& left = 0
            · have hand : bits BinOp.and IntKind.u64 (nf : Int) (left : Int) = 0 := by rw [and_u64 _ _ hnf4 hl4, hb]; rfl
              have hsh : IntKind.u64.wrap (2 ^ t) = 2 ^ t := shl_u64 t3
              have handn : bits BinOp.andNot IntKind.u64 (left : Int) (2 ^ t) = ((clr left t : Nat) : Int) := by
                have hp : 2 ^ t < 2 ^ 64 := Nat.pow_lt_pow_right (by omega) t3
                have := u64_andNot_nat left (2 ^ t) (by omega) (by simpa using hp)
                simpa [clr] using this
              have hfree : ∀ k ∈ FK.aft l t, left.testBit k = false := hzero.1 hb
              have htold : ∀ j ∈ FK.aft l t, j ∈ T := fun j hj => Classical.byContradiction fun hn => by
                have h1 := (HO.out.bits j).2 ⟨HV.out t j hj, hn⟩
                rw [hfree j hj] at h1; cases h1
              have HTELL := Lib.hid (HT.out wr T t HI1.out hsz htn ((HO.out.bits t).1 htl).2 htold)
              have HFREE := Lib.hid hfree
              clear hnf hnfe hzero t1 t2 htl hz hb hfree htold
              go_wp2_with (go_at_call 141; refine HTZ.out.mono ?_; rintro e w2 ⟨rfl, rfl⟩)
              refine HTELL.out.mono ?_
              rintro e w3 ⟨rfl, hi3, hsz3, hsame3⟩
              have HI3 := Lib.hid hi3
              have HSAME3 := Lib.hid hsame3
              clear hi3 hsame3
              go_wp2
              go_step3
              exact ⟨rfl, ⟨clr left t, T ++ [t], _, _, _, _, _, _, _, _, _, _, _, _, _, _, _, _, _, _, _, _, _, _, _, _, _, _, _, _, _, _, _, _, _, _, _, _, _, _, _, _, _, _, _, _, _, _, _, _, _, _, _, _, _, _, _, _, _, _, _, _, _, _, _, rfl, HI3.out, HO.out.tell TL.out HFREE.out (clr_testBit t3 (by omega)), (HSAME3.out _ (Nat.le_refl _) hsz).trans HB.out⟩⟩
            · have hand : bits BinOp.and IntKind.u64 (nf : Int) (left : Int) = ((nf &&& left : Nat) : Int) := and_u64 _ _ hnf4 hl4
              have hne2 : (((nf &&& left : Nat) : Int) == 0) = false := by simp; omega
              have hw : bits BinOp.and IntKind.u64 (wv : Int) ((wv : Int) - 1) = ((wv &&& (wv - 1) : Nat) : Int) := by
                have := and_u64 wv (wv - 1) hw4 (by omega)
                rwa [show ((wv - 1 : Nat) : Int) = (wv : Int) - 1 by omega] at this
              have hdec := asked_dec hz
              have hex : ∃ k ∈ FK.aft l t, left.testBit k = true := Classical.byContradiction fun hn => hb (hzero.2 fun k hk => by
                cases hx : left.testBit k with
                | false => rfl
                | true => exact absurd ⟨k, hk, hx⟩ hn)
              have HEX := Lib.hid hex
              have hz1 : 1 ≤ wv := by omega
              clear hnf hnfe hzero t1 t2 htl hz hb hex
              go_wp2_with (go_at_call 141; refine HTZ.out.mono ?_; rintro e w2 ⟨rfl, rfl⟩)
              go_round
              case rel => exact ⟨wv &&& (wv - 1), rfl, rfl, HASK.out.next T1.out T2.out HEX.out, by omega⟩
              case measure => simp [intOf]; omega
  · rintro a' w' ⟨left, T, u2, u3, u6, u7, u8, u9, u10, u11, u12, u13, u14, u15, u16, u17, u18, u19, u20, u21, u22, u23, u24, u25, u26, u27, u28, u29, u30, u31, u32, u33, u34, u35, u36, u37, u38, u39, u40, u41, u42, u43, u44, u45, u46, u47, u48, u49, u50, u51, u52, u53, u54, u55, u56, u57, u58, u59, u60, u61, u62, u63, u64, u65, u66, rfl, hi, ho, hblk⟩
    go_wp2
    have hl4 := ordering_lt ho hl
    have HI1 := Lib.hid hi
    have HO := Lib.hid ho
    have HB := Lib.hid hblk
    have hsz := hblk.lt
    clear hi ho hblk
    go_loop [4, 10] (fun s t => ∃ wv : Nat, s = .int .u64 left ∧ t = .int .u64 wv ∧ Asked l left wv ∧ wv < 4096) (fun _ t => (intOf t).toNat)
    case atStart => exact ⟨left, rfl, rfl, .start _ _, hl4⟩
    case round =>
      obtain ⟨wv, rfl, rfl, hask, hw4⟩ := hrel
      have HASK := Lib.hid hask
      clear hask
      by_cases hz : wv = 0
      · have hne : ((wv : Int) != 0) = false := by simp [hz]
        have HZ := Lib.hid hz
        clear hz
        go_wp2
        simp only [Exit.jump]
        go_ret
        exact ⟨left, T, rfl, HI1.out, HO.out, fun i hi => (HASK.out.2 i hi).resolve_left (by rw [HZ.out]; simp)⟩
      · obtain ⟨t1, t2, t3⟩ := ctz_low wv (by omega) hz
        have HTZ := Lib.hid (tz_calls wv (by omega) hz w' (HI.out _ _ HI1.out).2.1)
        have hne : ((wv : Int) != 0) = true := by simp; omega
        generalize Lib.ctz 64 wv = t at HTZ t1 t2 t3
        have htl : left.testBit t = true := HASK.out.1 t t1
        have htn : t < l.length := ((HO.out.bits t).1 htl).1
        have hnf : needF l l.length 0 t = FK.mask (FK.aft l t) := by simp [needF, htn]
        obtain ⟨nf, hnfe⟩ : ∃ nf, nf = needF l l.length 0 t := ⟨_, rfl⟩
        have hnf4 : nf < 4096 := by rw [hnfe]; exact needF_lt (n := 12) fun i x hx => by have := HV.out i x hx; omega
        have hcell : w'.cell? ⟨w.heap.size, t, none⟩ = some (.int .u64 (nf : Nat)) := by rw [HB.out.cell, hnfe]; exact needCells_at htn
        have hzero := FK.mask_and_zero (FK.aft l t) left
        rw [← hnf, ← hnfe] at hzero
        have HZERO := Lib.hid hzero
        have T1 := Lib.hid t1
        have T2 := Lib.hid t2
        have TL := Lib.hid htl
        have HZ := Lib.hid hz
        by_cases hb : nf &&& left = 0
        · have hand : bits BinOp.and IntKind.u64 (nf : Int) (left : Int) = 0 := by rw [and_u64 _ _ hnf4 hl4, hb]; rfl
          have hsh : IntKind.u64.wrap (2 ^ t) = 2 ^ t := shl_u64 t3
          have handn : bits BinOp.andNot IntKind.u64 (left : Int) (2 ^ t) = ((clr left t : Nat) : Int) := by
            have hp : 2 ^ t < 2 ^ 64 := Nat.pow_lt_pow_right (by omega) t3
            have := u64_andNot_nat left (2 ^ t) (by omega) (by simpa using hp)
            simpa [clr] using this
          have hfree : ∀ k ∈ FK.aft l t, left.testBit k = false := hzero.1 hb
          have htold : ∀ j ∈ FK.aft l t, j ∈ T := fun j hj => Classical.byContradiction fun hn => by
            have h1 := (HO.out.bits j).2 ⟨HV.out t j hj, hn⟩
            rw [hfree j hj] at h1; cases h1
          have HTELL := Lib.hid (HT.out w' T t HI1.out hsz htn ((HO.out.bits t).1 htl).2 htold)
          have HFREE := Lib.hid hfree
          clear hnf hnfe hzero t1 t2 htl hz hb hfree htold
          go_wp2_with (go_at_call 141; refine HTZ.out.mono ?_; rintro e w2 ⟨rfl, rfl⟩)
          refine HTELL.out.mono ?_
          rintro e w3 ⟨rfl, hi3, hsz3, hsame3⟩
          have HI3 := Lib.hid hi3
          have HSAME3 := Lib.hid hsame3
          clear hi3 hsame3
          go_wp2
          go_step3
          exact ⟨rfl, ⟨clr left t, T ++ [t], _, _, _, _, _, _, _, _, _, _, _, _, _, _, _, _, _, _, _, _, _, _, _, _, _, _, _, _, _, _, _, _, _, _, _, _, _, _, _, _, _, _, _, _, _, _, _, _, _, _, _, _, _, _, _, _, _, _, _, _, _, _, _, rfl, HI3.out, HO.out.tell TL.out HFREE.out (clr_testBit t3 (by omega)), (HSAME3.out _ (Nat.le_refl _) hsz).trans HB.out⟩, by have := clr_lt t3 (by omega) TL.out; simpa [intOf] using this⟩
        · have hand : bits BinOp.and IntKind.u64 (nf : Int) (left : Int) = ((nf &&& left : Nat) : Int) := and_u64 _ _ hnf4 hl4
          have hne2 : (((nf &&& left : Nat) : Int) == 0) = false := by simp; omega
          have hw : bits BinOp.and IntKind.u64 (wv : Int) ((wv : Int) - 1) = ((wv &&& (wv - 1) : Nat) : Int) := by
            have := and_u64 wv (wv - 1) hw4 (by omega)
            rwa [show ((wv - 1 : Nat) : Int) = (wv : Int) - 1 by omega] at this
          have hdec := asked_dec hz
          have hex : ∃ k ∈ FK.aft l t, left.testBit k = true := Classical.byContradiction fun hn => hb (hzero.2 fun k hk => by
            cases hx : left.testBit k with
            | false => rfl
            | true => exact absurd ⟨k, hk, hx⟩ hn)
          have HEX := Lib.hid hex
          have hz1 : 1 ≤ wv := by omega
          clear hnf hnfe hzero t1 t2 htl hz hb hex
          go_wp2_with (go_at_call 141; refine HTZ.out.mono ?_; rintro e w2 ⟨rfl, rfl⟩)
          go_round
          case rel => exact ⟨wv &&& (wv - 1), rfl, rfl, HASK.out.next T1.out T2.out HEX.out, by omega⟩
          case measure => simp [intOf]; omega
end Go.Proofs.YtmeegfamopaljaaGreatDoor

namespace Go.SL
open Go Go.RowKit
def under (n : Nat) (p : HP) : HP where
  sat w F := p.sat w (fun k => F k ∧ k < n)
  loc hFG hk h := p.loc (fun _ h => ⟨hFG _ h.1, h.2⟩) (fun _ h => hk _ h.1) h
theorem Star.under {w : World} {n : Nat} : ∀ {l : List HP} {F : Nat → Prop}, Star w l F → (∀ k, F k → k < n) → Star w (l.map (under n)) F
  | [], _, _, _ => trivial
  | p :: _l, _F, ⟨F1, F2, h1, h2, hd, hp, hl⟩, hF => ⟨F1, F2, h1, h2, hd, p.loc (fun k h => ⟨h, hF k (h1 k h)⟩) (fun _ _ => rfl) hp, Star.under hl fun k h => hF k (h2 k h)⟩
theorem Star.ununder {w : World} {n : Nat} : ∀ {l : List HP} {F : Nat → Prop}, Star w (l.map (SL.under n)) F → Star w l (fun k => F k ∧ k < n)
  | [], _, _ => trivial
  | _p :: _l, _F, ⟨F1, F2, h1, h2, hd, hp, hl⟩ => ⟨fun k => F1 k ∧ k < n, fun k => F2 k ∧ k < n, fun k h => ⟨h1 k h.1, h.2⟩, fun k h => ⟨h2 k h.1, h.2⟩, fun k a b => hd k a.1 b.1, hp, Star.ununder hl⟩
def markH (E : Env) (n : Nat) (W0 : World) : HP where
  sat w F := ∀ k, n ≤ k → E.free W0 k → F k ∧ w.heap[k]? = W0.heap[k]?
  loc hFG hk h := fun k a b => ⟨hFG _ (h k a b).1, (hk _ (h k a b).1).trans (h k a b).2⟩
theorem mark_all {E : Env} {n : Nat} {W0 W : World} {F : Nat → Prop} (h : (markH E n W0).sat W F) (i0 : E.is W0) (i : E.is W) : ∀ b, n ≤ b → b < W0.heap.size → W.heap[b]? = W0.heap[b]? := fun b hb hlt => by
  by_cases hf : ∃ p ∈ E.fixed, p.1 = b
  · obtain ⟨p, hp, rfl⟩ := hf
    rw [i.fixed p hp, i0.fixed p hp]
  · exact (h b hb ⟨hlt, fun p hp e => hf ⟨p, hp, e⟩⟩).2
end Go.SL
namespace Go.Proofs.YtmeegfamopaljaaGreatDoor
open Go Go.RowKit Go.SL
variable {G : Env → Prop}
theorem order_does {l : List FK.Node} {A : Option Addr} {c : Nat} {F : FuncId} {cap : Array Value} {L : List Nat → List HP} (hl : l.length ≤ 12) (hv : ∀ i, ∀ k ∈ FK.aft l i, k < l.length) (hpos : ∀ n ∈ l, ∀ x ∈ n.after, 0 ≤ x)
    (hF : ∀ (args : Array Value) (W : World), (callFunc F args).run Tryz.prog W = .ok (.enter F args) W) (hG : ∀ E w, G E → E.is w → Tab w)
    (hnodes : ∀ n T w F, Star w (L T) F → (∀ k, F k → k < n) → NodesAt w n A c l)
    (htell : ∀ n T k, k < l.length → k ∉ T → (∀ j ∈ FK.aft l k, j ∈ T) → Does Tryz.prog G F (#[.int .i64 k] ++ cap) ((L T).map (SL.under n)) fun v m => v = .tuple #[] ∧ m = (L (T ++ [k])).map (SL.under n)) :
    Does Tryz.prog G 139 #[.slice A l.length c, .func (.func F) #[] cap] (L []) fun v m => ∃ left T, v = .int .u64 (left : Nat) ∧ FK.Ordering l left T ∧ (∀ i, left.testBit i = true → ∃ k ∈ FK.aft l i, left.testBit k = true) ∧ m = L T := fun E w fr hE hw => by
  have hfix : ∀ q ∈ E.fixed, q.1 < w.heap.size := fun q hq => (Array.getElem?_eq_some_iff.1 (hw.is.fixed q hq)).1
  refine (flow_Order_calls2 w w.heap.size A c l F cap (fun W T => E.is W ∧ w.heap.size ≤ W.heap.size ∧ Star W (L T ++ fr) (E.free w)) (Nat.le_refl _) hl hv hpos hF ⟨hw.is, Nat.le_refl _, hw.star⟩ ?_ ?_ ?_).mono ?_
  · rintro W T ⟨h1, h2, h3⟩
    obtain ⟨F1, F2, f1, _, _, g1, _⟩ := Star.append h3
    exact ⟨hnodes w.heap.size T W F1 g1 (fun k hk => (f1 k hk).1), hG E W hE h1, h2⟩
  · rintro W W' T ⟨h1, h2, h3⟩ hb
    refine ⟨⟨hb.os.trans h1.os, hb.tape.trans h1.tape, hb.output.trans h1.output, fun q hq => (hb.block q.1 (hfix q hq)).trans (h1.fixed q hq)⟩, Nat.le_trans h2 hb.size, h3.loc (fun _ h => h) fun k hk => hb.block k hk.1⟩
  · rintro W T k ⟨h1, h2, h3⟩ hsz hk hnT hT
    have hst : Star W (((L T).map (SL.under w.heap.size)) ++ (fr.map (SL.under w.heap.size) ++ [markH E w.heap.size W])) (E.free W) := by
      have a1 : Star W ((L T ++ fr).map (SL.under w.heap.size)) (E.free w) := Star.under h3 fun k h => h.1
      rw [List.map_append] at a1
      have := Star.join (m := [markH E w.heap.size W]) (F := E.free W) (F1 := E.free w) (F2 := fun k => w.heap.size ≤ k ∧ E.free W k) (fun k h => ⟨Nat.lt_of_lt_of_le h.1 h2, h.2⟩) (fun k h => h.2) (fun k a b => by have := a.1; omega) a1 ⟨fun k => w.heap.size ≤ k ∧ E.free W k, fun _ => False, fun _ h => h, fun _ h => h.elim, fun _ _ h => h.elim, fun k a b => ⟨⟨a, b⟩, rfl⟩, trivial⟩
      rwa [List.append_assoc] at this
    refine (htell w.heap.size T k hk hnT hT E W _ hE ⟨h1, hst⟩).mono ?_
    rintro e W' ⟨v, m, rfl, ⟨rfl, rfl⟩, hH⟩
    have hs1 := hH.star
    rw [← List.append_assoc] at hs1
    obtain ⟨G1, G2, g1, g2, gd, b1, b2⟩ := Star.append hs1
    obtain ⟨K1, K2, k1, _, _, hm, _⟩ := b2
    have hall := mark_all hm h1 hH.is
    rw [← List.map_append] at b1
    have b3 := Star.ununder b1
    have hsz' : W.heap.size ≤ W'.heap.size := by
      have h4 := hall (W.heap.size - 1) (by omega) (by omega)
      have h5 : W.heap[W.heap.size - 1]? = some (W.heap[W.heap.size - 1]'(by omega)) := Array.getElem?_eq_getElem _
      rw [h5] at h4
      have := (Array.getElem?_eq_some_iff.1 h4).1
      omega
    exact ⟨rfl, ⟨hH.is, Nat.le_trans h2 hsz', b3.mono fun k h => ⟨h.2, (g1 k h.1).2⟩⟩, hsz', hall⟩
  · rintro e w' ⟨left, T, rfl, ⟨h1, h2, h3⟩, h4, h5⟩
    exact ⟨_, _, rfl, ⟨left, T, rfl, h4, h5, rfl⟩, h1, h3.mono fun k h => ⟨Nat.lt_of_lt_of_le h.1 h2, h.2⟩⟩
end Go.Proofs.YtmeegfamopaljaaGreatDoor

namespace Go.SL
open Go Go.RowKit
section
variable {P : Program} {E : Env} {n : Nat} {D : List Deferred} {ts : List (Nat × Value)} {l : List HP} {ops : Array Oper} {Q : Exit → Act → World → Prop} {fuel : Nat} {listed : Array Bool} {S : List (Nat × (World → Prop))}
def notWord : Value → Bool → Bool
  | .bool c, b => c != b
  | _, _ => true
theorem wanted_not {a : Act} {o : Oper} {j t : Nat} {b : Bool} {u : Value} (f : Fits n D ts a) (hg : o.guard = some (j, b)) (ht : (ops[j]?).bind (·.dst) = some t) (hv : look t ts = some u) (hb : notWord u b = true) : Region.wanted o (yielded ops a.tmps) = false := by
  have h1 := f.get t u hv
  have hy : yielded ops a.tmps j ≠ some b := by
    unfold yielded
    rw [ht, Option.bind_some, h1]
    cases u <;> simp_all [notWord]
  simp only [Region.wanted, hg]
  cases hq : yielded ops a.tmps j with
  | none => rfl
  | some c =>
    rw [hq] at hy
    cases c <;> cases b <;> simp_all
theorem Dr.skip (i : Nat) {o : Oper} {d j t : Nat} {b : Bool} {u : Value} (hi : ops[i]? = some o) (ho : o.dst = some d) (hd : Nat.blt d n = true) (hg : o.guard = some (j, b)) (ht : (ops[j]?).bind (·.dst) = some t) (hv : look t ts = some u) (hb : notWord u b = true) (hm : mayTake ops listed i = true)
    (h : At E n D ((d, undef) :: ts) l (Draw P ops (NoPanic Q) fuel (listed.setIfInBounds i true) S)) : At E n D ts l (Draw P ops (NoPanic Q) (fuel + 1) listed S) := fun a w f hw hS => by
  simp only [mayTake, Bool.and_eq_true] at hm
  have hS' : ∀ p ∈ (i, Any) :: S, p.2 w := fun p hp => by
    rcases List.mem_cons.1 hp with rfl | hp
    · trivial
    · exact hS p hp
  refine wpAnyP_take (v := undef) (φ := Any) hi (Region.noSelect_spec hm.1.1) (fun _ _ _ h => h.elim) fuel listed S a w (Region.free_spec hi hm.2) (by simpa using hm.1.2) (.inr ⟨wanted_not f hg ht hv hb, rfl⟩) trivial hS ?_
  rw [ho]
  exact wpAnyP_more fuel _ S i _ w (h _ w (f.put d (Nat.le_of_ble_eq_true hd) _) hw hS)
theorem L.skip {rest : List Oper} {o : Oper} {j t d : Nat} {b : Bool} {u : Value} (ho : o.dst = some d) (hi : Nat.blt d n = true) (hg : o.guard = some (j, b)) (ht : (ops[j]?).bind (·.dst) = some t) (hv : look t ts = some u) (hb : notWord u b = true) (h : At E n D ((d, undef) :: ts) l (wpList P ops Q rest)) : At E n D ts l (wpList P ops Q (o :: rest)) := fun a w f hw => by
  unfold wpList
  rw [if_neg (by rw [wanted_not f hg ht hv hb]; simp), ho]
  exact h _ w (f.put d (Nat.le_of_ble_eq_true hi) _) hw
theorem Dr.gl (i : Nat) {op : Op} {ty : TypeId} {pos : String} {af : Array Edge} {d j t : Nat} {b : Bool} {v : Value} {φ : World → Prop} (hi : ops[i]? = some ⟨some d, op, ty, pos, af, some (j, b)⟩) (hd : Nat.blt d n = true) (ht : (ops[j]?).bind (·.dst) = some t) (hv : look t ts = some (.bool b)) (hm : mayTake ops listed i = true) (hev : Ev P ts op v φ) (hφ : ∀ w, Holds E w l → φ w)
    (h : At E n D ((d, v) :: ts) l (Draw P ops (NoPanic Q) fuel (listed.setIfInBounds i true) ((i, φ) :: S))) : At E n D ts l (Draw P ops (NoPanic Q) (fuel + 1) listed S) := by
  simp only [mayTake, Bool.and_eq_true] at hm
  exact Dr.on i (_o := ⟨some d, op, ty, pos, af, some (j, b)⟩) hm.1.1 hi hd ht hv hm.1.2 hm.2 hev hφ h
theorem Dr.gp (i : Nat) {op : Op} {ty : TypeId} {pos : String} {af : Array Edge} {d j t : Nat} {b : Bool} {v : Value} (hi : ops[i]? = some ⟨some d, op, ty, pos, af, some (j, b)⟩) (hd : Nat.blt d n = true) (ht : (ops[j]?).bind (·.dst) = some t) (hv : look t ts = some (.bool b)) (hm : mayTake ops listed i = true) (hev : Ev P ts op v Any)
    (h : At E n D ((d, v) :: ts) l (Draw P ops (NoPanic Q) fuel (listed.setIfInBounds i true) S)) : At E n D ts l (Draw P ops (NoPanic Q) (fuel + 1) listed S) := fun a w f hw hS => by
  simp only [mayTake, Bool.and_eq_true] at hm
  have hS' : ∀ p ∈ (i, Any) :: S, p.2 w := fun p hp => by
    rcases List.mem_cons.1 hp with rfl | hp
    · trivial
    · exact hS p hp
  refine wpAnyP_take hi (Region.noSelect_spec hm.1.1) (fun _ _ _ h => h.elim) fuel listed S a w (Region.free_spec hi hm.2) (by simpa using hm.1.2) (.inl ⟨by simp [Region.wanted, yielded, ht, f.get t _ hv], fun w hw => hev a w _ _ _ _ _ f.knows hw⟩) trivial hS ?_
  exact wpAnyP_more fuel _ S i _ w (h _ w (f.put d (Nat.le_of_ble_eq_true hd) v) hw hS)
end
end Go.SL

namespace Go.Proofs.YtmeegfamopaljaaGreatDoor
open Go Go.RowKit Go.SL
variable {G : Env → Prop}
class HasRing (e : Nat) (l : List HP) (C : outParam EC) (q : outParam (List FK.Pl)) (r : outParam (List HP)) : Prop where
  sel : Sel (ringE e C q) l r
instance HasRing.head {e : Nat} {C : EC} {q : List FK.Pl} {l : List HP} : HasRing e (ringE e C q :: l) C q l := ⟨.head⟩
instance (priority := low) HasRing.tail {e : Nat} {C : EC} {q : List FK.Pl} {l r : List HP} {p : HP} [h : HasRing e l C q r] : HasRing e (p :: l) C q (p :: r) := ⟨.tail h.sel⟩
class HasMap {K : Type} (enc : K → Value) (b : Nat) (l : List HP) (m : outParam (List (K × Value))) (r : outParam (List HP)) : Prop where
  sel : Sel (vmap enc b m) l r
instance HasMap.head {K : Type} {enc : K → Value} {b : Nat} {m : List (K × Value)} {l : List HP} : HasMap enc b (vmap enc b m :: l) m l := ⟨.head⟩
instance (priority := low) HasMap.tail {K : Type} {enc : K → Value} {b : Nat} {m : List (K × Value)} {l r : List HP} {p : HP} [h : HasMap enc b l m r] : HasMap enc b (p :: l) m (p :: r) := ⟨.tail h.sel⟩
class HasRow (g : Nat) (l : List HP) (e : outParam TypeId) (size n m c : outParam Nat) (xs : outParam (List Value)) (r : outParam (List HP)) : Prop where
  sel : Sel (row e size (.slice (some ⟨g, 0, none⟩) n c) m xs) l r
instance HasRow.head {g : Nat} {e : TypeId} {size n m c : Nat} {xs : List Value} {l : List HP} : HasRow g (row e size (.slice (some ⟨g, 0, none⟩) n c) m xs :: l) e size n m c xs l := ⟨.head⟩
instance (priority := low) HasRow.tail {g : Nat} {e : TypeId} {size n m c : Nat} {xs : List Value} {l r : List HP} {p : HP} [h : HasRow g l e size n m c xs r] : HasRow g (p :: l) e size n m c xs (p :: r) := ⟨.tail h.sel⟩
section
variable {E : Env} {l : List HP}
theorem ecCell {e i : Nat} {C : EC} {q : List FK.Pl} {r : List HP} {v : Value} [h : HasRing e l C q r] (hv : ∀ rv f n, (engC C rv f n)[i]? = some v) : ∀ w, Holds E w l → CellIs ⟨e, i, none⟩ v w := fun w hw => by
  obtain ⟨F1, _, _, _, _, hp, _⟩ := (hw.sel h.sel).star
  obtain ⟨⟨rv, N, f, rg⟩, G1, G2, _, _, _, _, G3, G4, _, _, _, hb, _⟩ := hp
  have := hb.2
  simp only [CellIs, World.cell?, this]
  exact hv _ _ _
end
theorem o_storeE {P : Program} {E : Env} {n : Nat} {D : List Deferred} {ts : List (Nat × Value)} {l r : List HP} {Q : Exit → Act → World → Prop} {ty : TypeId} {pos : String} {af : Array Edge} {g : Option (Nat × Bool)} {t : TypeId} {x y : Operand} {e i : Nat} {C C' : EC} {q : List FK.Pl} {v : Value} {K : Act → World → Prop} [h : HasRing e l C q r]
    (hz : sizeIs P t 1) (hx : ev ts x = some (.pointer (some ⟨e, i, none⟩))) (hy : ev ts y = some v) (hv : v.oneCell' = true) (hi : i < 10) (hC : ∀ rv f n, (engC C rv f n).setIfInBounds i v = engC C' rv f n) (hk : At E n D ts (ringE e C' q :: r) K) : At E n D ts l (fun a w => (Oper.mk none (.store t x y) ty pos af g).wp P a w K Q) := by
  refine At.ex h.sel fun ⟨rv, N, f, rg⟩ => ?_
  refine At.openAll ?_
  show At E n D ts (HP.pure (FK.RingOk N f q rg) :: engB e C rv f q.length :: row 268 3 rv N (rV N rg) :: r) _
  refine At.pure .head fun hR => ?_
  refine o_store1 (b := e) (cs := engC C rv f q.length) rfl hz hx hy hv (by simpa using hi) ?_
  rw [hC]
  exact At.ent (Ent.closeRing hR) hk
abbrev natV (n : Nat) : Value := .int .u64 (n : Int)
theorem natKey : KeyK Tryz.prog 51 Nat natV := keyNat (by kernel_rfl)
abbrev spL (s : FK.Sp) : List Value := [.int .i64 s.state, .int .i64 s.tries, .int .u64 s.token]
def spV (l : List FK.Sp) : List Value := l.flatMap spL
theorem spV_len (l : List FK.Sp) : (spV l).length = l.length * 3 := flatx_len (k := 3) (fun _ => rfl) l
theorem spV_at {l : List FK.Sp} {i : Nat} {s : FK.Sp} (h : l[i]? = some s) (j : Nat) (u : Value) (hu : (spL s)[j]? = some u) : (spV l)[0 + i * 3 + j]? = some u := by
  rw [Nat.zero_add]
  exact flatx_at (k := 3) (fun _ => rfl) j h hu
theorem infoSp : elemIs Tryz.prog 265 (.agg #[.int .i64 0, .int .i64 0, .int .u64 0]) 3 24 := by unfold elemIs; kernel_rfl
theorem flat_ext3 {α : Type} {f : α → List Value} (hf : ∀ x, (f x).length = 3) {l : List α} {L : List Value} (hl : L.length = l.length * 3) (h : ∀ i x j u, l[i]? = some x → (f x)[j]? = some u → L[i * 3 + j]? = some u) : L = l.flatMap f := by
  apply List.ext_getElem?
  intro k
  by_cases hk : k < l.length * 3
  · have h1 : k / 3 < l.length := by omega
    have h2 : k % 3 < 3 := Nat.mod_lt _ (by omega)
    have h0 : l[k / 3]? = some l[k / 3] := List.getElem?_eq_getElem h1
    have h3 : (f l[k / 3])[k % 3]? = some ((f l[k / 3])[k % 3]'(by rw [hf]; exact h2)) := List.getElem?_eq_getElem _
    have h4 := h (k / 3) _ (k % 3) _ h0 h3
    have h5 := flatx_at hf (k % 3) h0 h3
    rw [show k / 3 * 3 + k % 3 = k by omega] at h4 h5
    rw [h4, h5]
  · rw [List.getElem?_eq_none (by omega), List.getElem?_eq_none (by rw [flatx_len hf]; omega)]
theorem spV_set {l : List FK.Sp} {i : Nat} (hi : i < l.length) (s : FK.Sp) : lset (spV l) (0 + i * 3) (spL s) = spV (l.set i s) := by
  refine flat_ext3 (fun _ => rfl) (by rw [lset_length, spV_len, List.length_set]) fun k x j u hx hu => ?_
  have hj : j < 3 := by have := (List.getElem?_eq_some_iff.1 hu).1; simpa using this
  by_cases h : k = i
  · subst h
    rw [List.getElem?_set_self hi] at hx
    injection hx with hx
    subst hx
    rw [show k * 3 + j = (0 + k * 3) + j by omega]
    exact lset_in (spL s) (spV l) (0 + k * 3) j u (by rw [spV_len]; simp; omega) hu
  · rw [List.getElem?_set_ne (Ne.symm h)] at hx
    rw [lset_off _ _ _ _ (by simp; omega)]
    have := spV_at hx j u hu
    rwa [Nat.zero_add] at this
theorem spV_set1 {l : List FK.Sp} {i : Nat} {s s' : FK.Sp} (hs : l[i]? = some s) {j : Nat} (hj : j < 3) {v : Value} (h : (spL s).set j v = spL s') : (spV l).set (0 + i * 3 + j) v = spV (l.set i s') := by
  have hi := (List.getElem?_eq_some_iff.1 hs).1
  refine flat_ext3 (fun _ => rfl) (by rw [List.length_set, spV_len, List.length_set]) fun k x m u hx hu => ?_
  have hm : m < 3 := by have := (List.getElem?_eq_some_iff.1 hu).1; simpa using this
  by_cases hk : k = i
  · subst hk
    rw [List.getElem?_set_self hi] at hx
    injection hx with hx
    subst hx
    rw [← h] at hu
    by_cases hmj : m = j
    · subst hmj
      rw [List.getElem?_set_self (by simpa using hm)] at hu
      rw [show 0 + k * 3 + m = k * 3 + m by omega, List.getElem?_set_self (by rw [spV_len]; omega)]
      exact hu
    · rw [List.getElem?_set_ne (Ne.symm hmj)] at hu
      rw [List.getElem?_set_ne (by omega)]
      have := spV_at hs m u hu
      rwa [Nat.zero_add] at this
  · rw [List.getElem?_set_ne (Ne.symm hk)] at hx
    rw [List.getElem?_set_ne (by omega)]
    have := spV_at hx m u hu
    rwa [Nat.zero_add] at this
abbrev aftsAll (vs : List Value) (l : List FK.Node) : HP := HP.all (aftsAt vs l)
structure RA where
  gn : Nat
  cn : Nat
  gs : Nat
  cs : Nat
  vs : List Value
abbrev RA.nv (a : RA) (R : FK.Rn) : Value := .slice (some ⟨a.gn, 0, none⟩) R.fl.nodes.length a.cn
abbrev RA.sv (a : RA) (R : FK.Rn) : Value := .slice (some ⟨a.gs, 0, none⟩) R.steps.length a.cs
abbrev runC (a : RA) (R : FK.Rn) : Array Value := #[.int .i64 R.fl.deadline, a.nv R, .int .i64 R.state, a.sv R, .int .u64 R.ended]
abbrev runB (rb : Nat) (a : RA) (R : FK.Rn) : HP := blk rb 263 (runC a R)
abbrev runL (rb : Nat) (a : RA) (R : FK.Rn) : List HP := [HP.pure (a.vs.length = R.fl.nodes.length), runB rb a R, row 46 7 (a.nv R) R.fl.nodes.length (nodesV R.fl.nodes a.vs), aftsAll a.vs R.fl.nodes, row 265 3 (a.sv R) R.steps.length (spV R.steps)]
def runX (rb : Nat) (a : RA) (R : FK.Rn) : HP := HP.all (runL rb a R)
structure EA where
  rm : Nat
  tm : Nat
  w : Nat
  fb : Nat → Nat
  ra : Nat → RA
structure WOk (now sets : Nat) (tms : List FK.KD) (W : FK.WS) : Prop where
  now : W.now = now
  seq : W.seq ≤ sets
  inv : FK.Inv W []
  tms : W.tms.map FK.kd = tms
def wheelE (w now sets : Nat) (tms : List FK.KD) : HP := HP.ex fun W : FK.WS => HP.all [HP.pure (WOk now sets tms W), wheelAt w W]
abbrev EngOk (S : FK.En) : Prop := (S.runs.map (·.1)).Nodup
abbrev ecOf (S : FK.En) (p : EA) : EC := ⟨S.seed, p.rm, p.tm, p.w, S.lastRun, S.lastToken, S.ends⟩
abbrev runM (S : FK.En) (p : EA) : List (Nat × Value) := S.runs.map fun r => (r.1, ptr (p.fb r.1))
abbrev taskM (S : FK.En) : List (Nat × Value) := S.tasks.map fun t => (t.1, plV t.2)
abbrev runsL (p : EA) (l : List (Nat × FK.Rn)) : List HP := l.map fun r => runX (p.fb r.1) (p.ra r.1) r.2
def runsX (p : EA) (l : List (Nat × FK.Rn)) : HP := HP.all (runsL p l)
abbrev engL (e : Nat) (p : EA) (S : FK.En) : List HP := [HP.pure (EngOk S), ringE e (ecOf S p) S.queue, vmap natV p.rm (runM S p), runsX p S.runs, vmap natV p.tm (taskM S), wheelE p.w S.now S.sets S.tms]
def engX (e : Nat) (p : EA) (S : FK.En) : HP := HP.all (engL e p S)
class HasEng (l : List HP) (e : outParam Nat) (p : outParam EA) (S : outParam FK.En) (r : outParam (List HP)) : Prop where
  sel : Sel (engX e p S) l r
instance HasEng.head {e : Nat} {p : EA} {S : FK.En} {l : List HP} : HasEng (engX e p S :: l) e p S l := ⟨.head⟩
instance (priority := low) HasEng.tail {e : Nat} {p : EA} {S : FK.En} {l r : List HP} {x : HP} [h : HasEng l e p S r] : HasEng (x :: l) e p S (x :: r) := ⟨.tail h.sel⟩
theorem getR_mem {S : FK.En} {id : Nat} {R : FK.Rn} (h : S.getR id = some R) : (id, R) ∈ S.runs := by
  unfold FK.En.getR at h
  cases hf : S.runs.find? (·.1 == id) with
  | none => rw [hf] at h; cases h
  | some x =>
    rw [hf] at h
    injection h with h
    have h1 := List.find?_some hf
    have h2 := List.mem_of_find?_eq_some hf
    obtain ⟨a, b⟩ := x
    have : a = id := by simpa using h1
    subst this
    have : b = R := h
    subst this
    exact h2
theorem rowSat {w : World} {F : Nat → Prop} {t : TypeId} {size m g o c : Nat} {xs vs : List Value} (h : (row t size (.slice (some ⟨g, 0, none⟩) m c) m xs).sat w F) (hv : ∀ j u, vs[j]? = some u → xs[o + j]? = some u) : RowIs g o vs w := fun j v hj => by
  have := h.1.cells (g := g) rfl (o + j) v (hv j v hj)
  rwa [add_plain, Nat.zero_add] at this
class SeesEng (l : List HP) (e : outParam Nat) (p : outParam EA) (S : outParam FK.En) : Prop where
  star : ∀ {E : Env} {w : World}, Holds E w l → ∃ F, Star w (engL e p S) F
instance SeesEng.has {e : Nat} {p : EA} {S : FK.En} {l r : List HP} [h : HasEng l e p S r] : SeesEng l e p S := ⟨fun hw => by
  obtain ⟨F1, _, _, _, _, hp, _⟩ := (hw.sel h.sel).star
  exact ⟨F1, hp⟩⟩
instance (priority := low) SeesEng.head {n e : Nat} {p : EA} {S : FK.En} {l : List HP} : SeesEng (SL.under n (engX e p S) :: l) e p S := ⟨fun hw => by
  obtain ⟨F1, _, _, _, _, hp, _⟩ := hw.star
  exact ⟨_, hp⟩⟩
instance (priority := low) SeesEng.tail {e : Nat} {p : EA} {S : FK.En} {l : List HP} {x : HP} [h : SeesEng l e p S] : SeesEng (x :: l) e p S := ⟨fun hw => h.star (hw.ent Ent.drop)⟩
section
variable {E : Env} {l : List HP} {e : Nat} {p : EA} {S : FK.En} [H : SeesEng l e p S]
include H
theorem eng_star {w : World} (hw : Holds E w l) : ∃ F, Star w (engL e p S) F := H.star hw
theorem eng_ok {w : World} (hw : Holds E w l) : EngOk S := by
  obtain ⟨F, h⟩ := eng_star (H := H) hw
  have := Star.mem (p := HP.pure (EngOk S)) h (by simp)
  exact this
theorem eng_cell {i : Nat} {v : Value} (hv : ∀ rv f n, (engC (ecOf S p) rv f n)[i]? = some v) : ∀ w, Holds E w l → CellIs ⟨e, i, none⟩ v w := fun w hw => by
  obtain ⟨F, h⟩ := eng_star (H := H) hw
  obtain ⟨⟨rv, N, f, rg⟩, h1⟩ := Star.mem (p := ringE e (ecOf S p) S.queue) h (by simp)
  have h2 : (engB e (ecOf S p) rv f S.queue.length).sat w F := Star.mem (l := [HP.pure (FK.RingOk N f S.queue rg), engB e (ecOf S p) rv f S.queue.length, row 268 3 rv N (rV N rg)]) h1 (by simp)
  have := h2.2
  simp only [CellIs, World.cell?, this]
  exact hv _ _ _
theorem eng_runs : ∀ w, Holds E w l → VMapIs natV p.rm (runM S p) w := fun w hw => by
  obtain ⟨F, h⟩ := eng_star (H := H) hw
  exact (Star.mem (p := vmap natV p.rm (runM S p)) h (by simp)).2
theorem eng_tasks : ∀ w, Holds E w l → VMapIs natV p.tm (taskM S) w := fun w hw => by
  obtain ⟨F, h⟩ := eng_star (H := H) hw
  exact (Star.mem (p := vmap natV p.tm (taskM S)) h (by simp)).2
theorem run_star {id : Nat} {R : FK.Rn} (hR : S.getR id = some R) {w : World} (hw : Holds E w l) : ∃ F, Star w (runL (p.fb id) (p.ra id) R) F := by
  obtain ⟨F, h⟩ := eng_star (H := H) hw
  have h1 : Star w (runsL p S.runs) F := Star.mem (p := runsX p S.runs) h (by simp)
  have h2 : (runX (p.fb id) (p.ra id) R).sat w F := Star.mem (l := runsL p S.runs) h1 (List.mem_map.2 ⟨(id, R), getR_mem hR, rfl⟩)
  exact ⟨F, h2⟩
theorem run_vs {id : Nat} {R : FK.Rn} (hR : S.getR id = some R) {w : World} (hw : Holds E w l) : (p.ra id).vs.length = R.fl.nodes.length := by
  obtain ⟨F, h⟩ := run_star (H := H) hR hw
  have := Star.mem (p := HP.pure ((p.ra id).vs.length = R.fl.nodes.length)) h (by simp)
  exact this
theorem run_cell {id i : Nat} {R : FK.Rn} {v : Value} (hR : S.getR id = some R) (hv : (runC (p.ra id) R)[i]? = some v) : ∀ w, Holds E w l → CellIs ⟨p.fb id, i, none⟩ v w := fun w hw => by
  obtain ⟨F, h⟩ := run_star (H := H) hR hw
  have h2 : (runB (p.fb id) (p.ra id) R).sat w F := Star.mem h (by simp)
  have := h2.2
  simp only [CellIs, World.cell?, this]
  exact hv
theorem step_row {id k : Nat} {R : FK.Rn} {s : FK.Sp} (hR : S.getR id = some R) (hs : R.steps[k]? = some s) : ∀ w, Holds E w l → RowIs (p.ra id).gs (0 + k * 3) (spL s) w := fun w hw => by
  obtain ⟨F, h⟩ := run_star (H := H) hR hw
  exact rowSat (Star.mem (p := row 265 3 ((p.ra id).sv R) R.steps.length (spV R.steps)) h (by simp)) (fun j u hj => spV_at hs j u hj)
theorem step_cell {id k j : Nat} {R : FK.Rn} {s : FK.Sp} {v : Value} (hR : S.getR id = some R) (hs : R.steps[k]? = some s) (hv : (spL s)[j]? = some v) : ∀ w, Holds E w l → CellIs ⟨(p.ra id).gs, 0 + k * 3 + j, none⟩ v w := fun w hw => by
  have := step_row (H := H) hR hs w hw j v hv
  exact this
theorem node_row {id k : Nat} {R : FK.Rn} {nd : FK.Node} {u : Value} (hR : S.getR id = some R) (hn : R.fl.nodes[k]? = some nd) (hu : (p.ra id).vs[k]? = some u) : ∀ w, Holds E w l → RowIs (p.ra id).gn (0 + k * 7) (nodeCells nd u) w := fun w hw => by
  obtain ⟨F, h⟩ := run_star (H := H) hR hw
  exact rowSat (Star.mem (p := row 46 7 ((p.ra id).nv R) R.fl.nodes.length (nodesV R.fl.nodes (p.ra id).vs)) h (by simp)) (fun j v hj => by
    have hj7 : j < 7 := by have := (List.getElem?_eq_some_iff.1 hj).1; simpa [nodeCells] using this
    rw [Nat.zero_add, nodesV_at _ _ _ _ _ _ (run_vs (H := H) hR hw) hn hu hj7]
    exact hj)
theorem aft_form {id k : Nat} {R : FK.Rn} {nd : FK.Node} (hR : S.getR id = some R) (hn : R.fl.nodes[k]? = some nd) {w : World} (hw : Holds E w l) : ∃ A c, (p.ra id).vs[k]? = some (.slice A nd.after.length c) ∧ (A = none → nd.after.length = 0 ∧ c = 0) ∧ (∀ ad, A = some ad → ∃ g, ad = ⟨g, 0, none⟩) ∧ nd.after.length ≤ c ∧ c ≤ maxLen := by
  have hv := run_vs (H := H) hR hw
  have hk := (List.getElem?_eq_some_iff.1 hn).1
  obtain ⟨u, hu⟩ : ∃ u, (p.ra id).vs[k]? = some u := ⟨(p.ra id).vs[k]'(by omega), by simp [hv, hk]⟩
  obtain ⟨F, h⟩ := run_star (H := H) hR hw
  have h1 := Star.mem (p := aftsAll (p.ra id).vs R.fl.nodes) h (by simp)
  have hz : ((p.ra id).vs.zip R.fl.nodes)[k]? = some (u, nd) := by simp [List.getElem?_zip_eq_some, hn, hu]
  have h2 : (intsAt u nd.after).sat w F := Star.mem (l := aftsAt (p.ra id).vs R.fl.nodes) h1 (List.mem_map.2 ⟨(u, nd), List.mem_of_getElem? hz, rfl⟩)
  obtain ⟨hlen, hown⟩ := h2.1
  rcases hown with ⟨rfl, h0⟩ | ⟨g, cap, cur, rfl, _, hg, hm, hc, hs, ht⟩
  · exact ⟨none, 0, by rw [hu, h0], fun _ => ⟨h0, rfl⟩, fun _ hx => (by cases hx), (by omega), Nat.zero_le _⟩
  · exact ⟨_, cap, hu, fun hx => (by cases hx), fun ad hx => (by injection hx with hx; exact ⟨g, hx.symm⟩), hm, hc⟩
theorem aft_cell {id k j g c : Nat} {R : FK.Rn} {nd : FK.Node} {x : Int} (hR : S.getR id = some R) (hn : R.fl.nodes[k]? = some nd) (hu : (p.ra id).vs[k]? = some (.slice (some ⟨g, 0, none⟩) nd.after.length c)) (hx : nd.after[j]? = some x) : ∀ w, Holds E w l → CellIs ⟨g, 0 + j * 1, none⟩ (.int .i64 x) w := fun w hw => by
  obtain ⟨F, h⟩ := run_star (H := H) hR hw
  have h1 := Star.mem (p := aftsAll (p.ra id).vs R.fl.nodes) h (by simp)
  have hz : ((p.ra id).vs.zip R.fl.nodes)[k]? = some (.slice (some ⟨g, 0, none⟩) nd.after.length c, nd) := by simp [List.getElem?_zip_eq_some, hn, hu]
  have h2 : (intsAt (.slice (some ⟨g, 0, none⟩) nd.after.length c) nd.after).sat w F := Star.mem (l := aftsAt (p.ra id).vs R.fl.nodes) h1 (List.mem_map.2 ⟨_, List.mem_of_getElem? hz, rfl⟩)
  have h3 := rowSat (o := 0) (vs := intsV nd.after) h2 (fun j u hj => by rwa [Nat.zero_add])
  have h4 := h3 j (.int .i64 x) (by simp [intsV, hx])
  rwa [Nat.mul_one]
end
end Go.Proofs.YtmeegfamopaljaaGreatDoor
