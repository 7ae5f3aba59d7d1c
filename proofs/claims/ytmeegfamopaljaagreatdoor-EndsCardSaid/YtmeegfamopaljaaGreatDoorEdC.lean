/- The engine in plain data: what always holds of it; what a turned step keeps. -/
import Derived.Test.YtmeegfamopaljaaGreatDoorEdB
namespace FK
def En.stp (S : En) (id k : Nat) : Option Sp := (S.getR id).bind fun R => R.steps[k]?
structure SpOk (st : Int) (s : Sp) (n : Node) : Prop where
 st1 : 1 ≤ s.state
 st7 : s.state ≤ 7
 tr0 : 0 ≤ s.tries
 trb : s.tries ≤ n.budget
 low : s.state = 1 ∨ s.state = 2 ∨ s.state = 4 → s.tries < n.budget
 wait : s.state = 1 → s.tries = 0
 work : s.state = 3 → 1 ≤ s.tries
 idle : s.state ≠ 3 → s.token = 0
 dead : s.state = 6 → s.tries = n.budget
 over : st ≠ 1 → s.state = 5 ∨ s.state = 6 ∨ s.state = 7
structure RnOk (ends : Nat) (R : Rn) : Prop where
 fl : Fit R.fl
 len : R.steps.length = R.fl.nodes.length
 sp : ∀ (k : Nat) (s : Sp) (n : Node), R.steps[k]? = some s → R.fl.nodes[k]? = some n → SpOk R.state s n
 ended : R.ended = 0 ↔ R.state = 1
 ends : R.ended ≤ ends
def vS (R : Rn) (p : Pl) : Prop := R.state = 1 ∧ ((p.node = -1 ∧ p.what = 0) ∨ ∃ (k : Nat) (s : Sp), p.node = k ∧ R.steps[k]? = some s ∧ ((p.what = 1 ∧ (s.state = 3 ∨ s.state = 4)) ∨ (p.what = 2 ∧ s.state = 3)))
def BD (S : En) (x : KD) : Prop := x.2 ≤ 4611686018427387904 ∧ ∃ R, S.getR x.1.run = some R ∧ vS R x.1
structure Ok (S : En) : Prop where
 now : S.now ≤ 4611686018427387904
 seed : S.seed < 18446744073709551616
 ids : (S.runs.map (·.1)).Nodup
 low : ∀ i ∈ S.runs.map (·.1), 1 ≤ i ∧ i ≤ S.lastRun
 six : S.runs.length ≤ 6
 run : ∀ id R, S.getR id = some R → RnOk S.ends R
 tkeys : (S.tasks.map (·.1)).Nodup
 tlow : ∀ t ∈ S.tasks, 1 ≤ t.1 ∧ t.1 ≤ S.lastToken
 tasks : ∀ t p, (t, p) ∈ S.tasks ↔ ∃ (id k : Nat) (s : Sp), p = ⟨id, (k : Int), 0⟩ ∧ S.stp id k = some s ∧ s.state = 3 ∧ s.token = t
 qnd : S.queue.Nodup
 queue : ∀ p, p ∈ S.queue ↔ ∃ (id k : Nat) (s : Sp), p = ⟨id, (k : Int), 0⟩ ∧ S.stp id k = some s ∧ s.state = 2
 knd : (S.tms.map (·.1)).Nodup
 tms : ∀ x ∈ S.tms, BD S x
theorem Ok.node {S : En} (h : Ok S) {id k : Nat} {R : Rn} {s : Sp} (hR : S.getR id = some R) (hs : R.steps[k]? = some s) : ∃ n, R.fl.nodes[k]? = some n ∧ SpOk R.state s n := by
 have hr := h.run id R hR
 have hk := (List.getElem?_eq_some_iff.1 hs).1
 have : R.fl.nodes[k]? = some (R.fl.nodes[k]'(by rw [← hr.len]; exact hk)) := List.getElem?_eq_getElem _
 exact ⟨_, this, hr.sp k s _ hs this⟩
theorem ib {S : En} {id k : Nat} {s : Sp} (h : S.stp id k = some s) : ∃ R, S.getR id = some R ∧ R.steps[k]? = some s := by
 unfold En.stp at h
 cases hR : S.getR id with
 | none => rw [hR] at h; cases h
 | some R => rw [hR] at h; exact ⟨R, rfl, h⟩
theorem eY {S : En} {id k : Nat} {s : Sp} {R : Rn} (hR : S.getR id = some R) (hs : R.steps[k]? = some s) : S.stp id k = some s := by
 unfold En.stp
 rw [hR]
 exact hs
theorem eP {a b : Nat} {i j : Nat} {u v : Int} (h : (⟨a, (i : Int), u⟩ : Pl) = ⟨b, (j : Int), v⟩) : a = b ∧ i = j ∧ u = v := by
 injection h with h1 h2 h3
 exact ⟨h1, by omega, h3⟩
theorem yQ {S S' : En} {id k : Nat} {R : Rn} {s s' : Sp} (hR : S.getR id = some R) (hs : R.steps[k]? = some s) (hget : ∀ a, S'.getR a = if a = id then some (R.setS k s') else S.getR a) (a j : Nat) : S'.stp a j = if a = id ∧ j = k then some s' else S.stp a j := by
 unfold En.stp
 rw [hget]
 by_cases h : a = id
 · subst h
   rw [if_pos rfl, hR]
   show (R.setS k s').steps[j]? = _
   by_cases hj : j = k
   · subst hj
     rw [cd hs]
     simp
   · rw [if_neg (fun h => hj h.2)]
     show (R.steps.set k s')[j]? = R.steps[j]?
     rw [List.getElem?_set_ne (Ne.symm hj)]
 · rw [if_neg h, if_neg (fun x => h x.1)]
theorem Ok.turn {S S' : En} (h : Ok S) {id k : Nat} {R : Rn} {s s' : Sp} {n : Node} (hR : S.getR id = some R) (hs : R.steps[k]? = some s) (hn : R.fl.nodes[k]? = some n)
 (hnow : S'.now ≤ 4611686018427387904) (hseed : S'.seed = S.seed) (hruns : S'.runs.map (·.1) = S.runs.map (·.1)) (hlr : S'.lastRun = S.lastRun) (hends : S'.ends = S.ends) (hget : ∀ a, S'.getR a = if a = id then some (R.setS k s') else S.getR a)
 (hsp : SpOk R.state s' n) (tk : (S'.tasks.map (·.1)).Nodup) (tl : ∀ t ∈ S'.tasks, 1 ≤ t.1 ∧ t.1 ≤ S'.lastToken)
 (ht : ∀ t p, (t, p) ∈ S'.tasks ↔ ((t, p) ∈ S.tasks ∧ p ≠ ⟨id, (k : Int), 0⟩) ∨ (s'.state = 3 ∧ t = s'.token ∧ p = ⟨id, (k : Int), 0⟩))
 (qn : S'.queue.Nodup) (hq : ∀ p, p ∈ S'.queue ↔ (p ∈ S.queue ∧ p ≠ ⟨id, (k : Int), 0⟩) ∨ (s'.state = 2 ∧ p = ⟨id, (k : Int), 0⟩))
 (kn : (S'.tms.map (·.1)).Nodup) (hk : ∀ x ∈ S'.tms, (x ∈ S.tms ∧ (x.1 = ⟨id, (k : Int), 1⟩ → s'.state = 3 ∨ s'.state = 4) ∧ (x.1 = ⟨id, (k : Int), 2⟩ → s'.state = 3)) ∨ BD S' x) : Ok S' := by
 have hst := yQ hR hs hget
 refine ⟨hnow, hseed ▸ h.seed, hruns ▸ h.ids, fun i hi => ?_, ?_, fun a R' hR' => ?_, tk, tl, fun t p => ?_, qn, fun p => ?_, kn, fun x hx => ?_⟩
 · rw [hlr]
   rw [hruns] at hi
   exact h.low i hi
 · have := congrArg List.length hruns
   simp only [List.length_map] at this
   have := h.six
   omega
 · rw [hget] at hR'
   rw [hends]
   by_cases ha : a = id
   · rw [if_pos ha] at hR'
     injection hR' with hR'
     subst hR'
     have hr := h.run id R hR
     refine ⟨hr.fl, by simpa [Rn.setS] using hr.len, fun j u m hj hm => ?_, hr.ended, hr.ends⟩
     by_cases hjk : j = k
     · subst hjk
       rw [cd hs] at hj
       injection hj with hj
       subst hj
       have hm' : R.fl.nodes[j]? = some m := hm
       rw [hn] at hm'
       injection hm' with hm'
       subst hm'
       exact hsp
     · have hj' : (R.steps.set k s')[j]? = some u := hj
       rw [List.getElem?_set_ne (Ne.symm hjk)] at hj'
       exact hr.sp j u m hj' hm
   · rw [if_neg ha] at hR'
     exact h.run a R' hR'
 · rw [ht, h.tasks]
   constructor
   · rintro (⟨⟨a, j, u, rfl, h1, h2, h3⟩, hne⟩ | ⟨h1, rfl, rfl⟩)
     · refine ⟨a, j, u, rfl, ?_, h2, h3⟩
       rw [hst, if_neg]
       · exact h1
       · rintro ⟨rfl, rfl⟩
         exact hne rfl
     · exact ⟨id, k, s', rfl, by rw [hst, if_pos ⟨rfl, rfl⟩], h1, rfl⟩
   · rintro ⟨a, j, u, rfl, h1, h2, h3⟩
     rw [hst] at h1
     by_cases hc : a = id ∧ j = k
     · rw [if_pos hc] at h1
       injection h1 with h1
       subst h1
       obtain ⟨rfl, rfl⟩ := hc
       exact .inr ⟨h2, h3.symm, rfl⟩
     · rw [if_neg hc] at h1
       refine .inl ⟨⟨a, j, u, rfl, h1, h2, h3⟩, fun e => ?_⟩
       obtain ⟨e1, e2, _⟩ := eP e
       exact hc ⟨e1, e2⟩
 · rw [hq, h.queue]
   constructor
   · rintro (⟨⟨a, j, u, rfl, h1, h2⟩, hne⟩ | ⟨h1, rfl⟩)
     · refine ⟨a, j, u, rfl, ?_, h2⟩
       rw [hst, if_neg]
       · exact h1
       · rintro ⟨rfl, rfl⟩
         exact hne rfl
     · exact ⟨id, k, s', rfl, by rw [hst, if_pos ⟨rfl, rfl⟩], h1⟩
   · rintro ⟨a, j, u, rfl, h1, h2⟩
     rw [hst] at h1
     by_cases hc : a = id ∧ j = k
     · rw [if_pos hc] at h1
       injection h1 with h1
       subst h1
       obtain ⟨rfl, rfl⟩ := hc
       exact .inr ⟨h2, rfl⟩
     · rw [if_neg hc] at h1
       refine .inl ⟨⟨a, j, u, rfl, h1, h2⟩, fun e => ?_⟩
       obtain ⟨e1, e2, _⟩ := eP e
       exact hc ⟨e1, e2⟩
 · rcases hk x hx with ⟨h1, h2, h3⟩ | h1
   · obtain ⟨hb, R1, hR1, hst1, hat⟩ := h.tms x h1
     refine ⟨hb, ?_⟩
     rw [hget]
     by_cases ha : x.1.run = id
     · rw [if_pos ha]
       rw [ha, hR] at hR1
       injection hR1 with hR1
       subst hR1
       refine ⟨_, rfl, hst1, ?_⟩
       rcases hat with hat | ⟨j, u, e1, e2, e3⟩
       · exact .inl hat
       · refine .inr ?_
         by_cases hj : j = k
         · subst hj
           refine ⟨j, s', e1, cd hs, ?_⟩
           rcases e3 with ⟨e3, _⟩ | ⟨e3, _⟩
           · refine .inl ⟨e3, h2 ?_⟩
             obtain ⟨⟨p1, p2, p3⟩, x2⟩ := x
             simp only at ha e1 e3
             rw [ha, e1, e3]
           · refine .inr ⟨e3, h3 ?_⟩
             obtain ⟨⟨p1, p2, p3⟩, x2⟩ := x
             simp only at ha e1 e3
             rw [ha, e1, e3]
         · refine ⟨j, u, e1, ?_, e3⟩
           show (R.steps.set k s')[j]? = some u
           rw [List.getElem?_set_ne (Ne.symm hj)]
           exact e2
     · rw [if_neg ha]
       exact ⟨R1, hR1, hst1, hat⟩
   · exact h1
theorem setR_keys {S : En} {id : Nat} {R : Rn} : (S.setR id R).runs.map (·.1) = S.runs.map (·.1) := by
 unfold En.setR
 simp only [List.map_map]
 refine List.map_congr_left fun x _ => ?_
 simp only [Function.comp_apply]
 split <;> rfl
theorem iI {S : En} {id : Nat} {R R' : Rn} (h : S.getR id = some R) (a : Nat) : (S.setR id R').getR a = if a = id then some R' else S.getR a := by
 by_cases ha : a = id
 · subst ha
   rw [if_pos rfl, cg h]
 · rw [if_neg ha, dM ha]
theorem SpOk.running {st : Int} {s : Sp} {n : Node} (h : SpOk st s n) (hs : s.state = 1 ∨ s.state = 2 ∨ s.state = 3 ∨ s.state = 4) : st = 1 := by
 refine Classical.byContradiction fun hne => ?_
 have := h.over hne
 omega
theorem Ok.ready {S : En} (h : Ok S) {id k : Nat} {R : Rn} {s : Sp} (hR : S.getR id = some R) (hs : R.steps[k]? = some s) (hst : s.state = 1 ∨ (s.state = 4 ∧ ∀ x ∈ S.tms, x.1 ≠ ⟨id, (k : Int), 1⟩)) : Ok (S.ready id k) := by
 obtain ⟨n, hn, hp⟩ := h.node hR hs
 rw [gR hR hs]
 have hno : (⟨id, (k : Int), 0⟩ : Pl) ∉ S.queue := by
  rw [h.queue]
  rintro ⟨a, j, u, e, h1, h2⟩
  obtain ⟨rfl, rfl, _⟩ := eP e
  rw [eY hR hs] at h1
  injection h1 with h1
  subst h1
  omega
 have hnt : ∀ t, (t, (⟨id, (k : Int), 0⟩ : Pl)) ∉ S.tasks := fun t => by
  rw [h.tasks]
  rintro ⟨a, j, u, e, h1, h2, _⟩
  obtain ⟨rfl, rfl, _⟩ := eP e
  rw [eY hR hs] at h1
  injection h1 with h1
  subst h1
  omega
 have hrun := hp.running (by omega)
 refine h.turn (s' := { s with state := 2 }) hR hs hn h.now rfl setR_keys rfl rfl (iI hR) ?_ h.tkeys h.tlow ?_ ?_ ?_ h.knd ?_
 · exact ⟨by show (1 : Int) ≤ 2; omega, by show (2 : Int) ≤ 7; omega, hp.tr0, hp.trb, fun _ => hp.low (by omega), fun e => absurd (show (2 : Int) = 1 from e) (by decide), fun e => absurd (show (2 : Int) = 3 from e) (by decide), fun _ => hp.idle (by omega), fun e => absurd (show (2 : Int) = 6 from e) (by decide), fun e => absurd hrun e⟩
 · intro t p
   show (t, p) ∈ S.tasks ↔ _
   constructor
   · intro hm
     refine .inl ⟨hm, ?_⟩
     rintro rfl
     exact hnt t hm
   · rintro (⟨hm, _⟩ | ⟨e, _⟩)
     · exact hm
     · exact absurd (show (2 : Int) = 3 from e) (by decide)
 · show (S.queue ++ [_]).Nodup
   rw [List.nodup_append]
   exact ⟨h.qnd, by simp, by
    intro a ha b hb
    simp at hb
    subst hb
    rintro rfl
    exact hno ha⟩
 · intro p
   show p ∈ S.queue ++ [_] ↔ _
   rw [List.mem_append, List.mem_singleton]
   constructor
   · rintro (hm | rfl)
     · refine .inl ⟨hm, ?_⟩
       rintro rfl
       exact hno hm
     · exact .inr ⟨rfl, rfl⟩
   · rintro (⟨hm, _⟩ | ⟨_, rfl⟩)
     · exact .inl hm
     · exact .inr rfl
 · intro x hx
   refine .inl ⟨hx, fun e => ?_, fun e => ?_⟩
   · exfalso
     rcases hst with h1 | ⟨_, h1⟩
     · obtain ⟨_, R1, hR1, _, hat⟩ := h.tms x hx
       rw [e] at hR1 hat
       rw [hR] at hR1
       injection hR1 with hR1
       subst hR1
       rcases hat with ⟨e1, _⟩ | ⟨j, u, e1, e2, e3⟩
       · simp only at e1; omega
       · have : k = j := by simp only at e1; omega
         subst this
         rw [hs] at e2
         injection e2 with e2
         subst e2
         simp only at e3
         omega
     · exact h1 x hx e
   · exfalso
     obtain ⟨_, R1, hR1, _, hat⟩ := h.tms x hx
     rw [e] at hR1 hat
     rw [hR] at hR1
     injection hR1 with hR1
     subst hR1
     rcases hat with ⟨e1, _⟩ | ⟨j, u, e1, e2, e3⟩
     · simp only at e1; omega
     · have : k = j := by simp only at e1; omega
       subst this
       rw [hs] at e2
       injection e2 with e2
       subst e2
       simp only at e3
       omega
theorem Ok.wakeK {S : En} (h : Ok S) (id k : Nat) : Ok (En.wakeK id S k) := by
 cases hR : S.getR id with
 | none => unfold En.wakeK; rw [hR]; exact h
 | some R =>
  rw [ju hR]
  split
  · rename_i hf
    have h1 : bR R.steps k 1 = true := by
     unfold cZ at hf
     simp only [Bool.and_eq_true] at hf
     exact hf.1
    obtain ⟨s, hs, h2⟩ := qq h1
    exact h.ready hR hs (.inl h2)
  · exact h
theorem Ok.wakeN {S : En} (h : Ok S) (id : Nat) : ∀ n, Ok (S.wakeN id n)
 | 0 => h
 | n + 1 => by
  rw [e8]
  exact (Ok.wakeN h id n).wakeK id n
theorem Ok.wake {S : En} (h : Ok S) (id : Nat) : Ok (S.wake id) := by
 unfold En.wake
 split
 · exact h.wakeN id _
 · exact h
end FK

namespace FK
theorem kz {t : Nat} : ∀ {l : List (Nat × Pl)}, (l.map (·.1)).Nodup → ∀ x, x ∈ l.eraseP (·.1 == t) ↔ x ∈ l ∧ x.1 ≠ t
 | [], _, x => by simp
 | y :: l, hn, x => by
  simp only [List.map_cons, List.nodup_cons] at hn
  rw [List.eraseP_cons]
  by_cases hy : y.1 = t
  · have : (y.1 == t) = true := by simpa using hy
    rw [this, cond_true]
    constructor
    · intro hx
      refine ⟨.tail _ hx, fun e => hn.1 ?_⟩
      rw [hy, ← e]
      exact List.mem_map_of_mem (f := (·.1)) hx
    · rintro ⟨hx, hne⟩
      rcases List.mem_cons.1 hx with rfl | hx
      · exact absurd hy hne
      · exact hx
  · have : (y.1 == t) = false := by simpa using hy
    rw [this, cond_false, List.mem_cons, kz hn.2, List.mem_cons]
    constructor
    · rintro (rfl | ⟨h1, h2⟩)
      · exact ⟨.inl rfl, hy⟩
      · exact ⟨.inr h1, h2⟩
    · rintro ⟨rfl | h1, h2⟩
      · exact .inl rfl
      · exact .inr ⟨h1, h2⟩
theorem gC {α β : Type} {f : α → β} {l m : List α} (h : (l.map f).Nodup) (s : m.Sublist l) : (m.map f).Nodup := h.sublist (s.map f)
theorem Ok.times {S : En} (h : Ok S) {now sets : Nat} {tms : List KD} (hn : now ≤ 4611686018427387904) (hk : (tms.map (·.1)).Nodup) (ht : ∀ x ∈ tms, BD S x) : Ok { S with now := now, tms := tms, sets := sets } :=
 ⟨hn, h.seed, h.ids, h.low, h.six, h.run, h.tkeys, h.tlow, h.tasks, h.qnd, h.queue, hk, ht⟩
theorem Ok.setT {S : En} (h : Ok S) {p : Pl} {a : Nat} (ha : a ≤ 4611686018427387904) {R : Rn} (hR : S.getR p.run = some R) (ht : vS R p) : Ok (S.setT p a) := by
 refine h.times (now := S.now) h.now ?_ ?_
 · rw [List.map_append, List.nodup_append]
   refine ⟨gC h.knd List.filter_sublist, by simp, ?_⟩
   intro x hx y hy
   simp at hy
   subst hy
   rintro rfl
   obtain ⟨u, hu, rfl⟩ := List.mem_map.1 hx
   have := (List.mem_filter.1 hu).2
   simp at this
 · intro x hx
   rcases List.mem_append.1 hx with hx | hx
   · exact h.tms x (List.mem_filter.1 hx).1
   · rw [List.mem_singleton] at hx
     subst hx
     exact ⟨ha, R, hR, ht⟩
theorem kX (S : En) (n : Nat) : S.later n ≤ 4611686018427387904 := by unfold En.later; omega
theorem Ok.life {S : En} (h : Ok S) {id k : Nat} {wh : Int} {R : Rn} {s : Sp} (n : Node) (hR : S.getR id = some R) (hs : R.steps[k]? = some s) (h3 : s.state = 3) : Ok (S.life ⟨id, (k : Int), wh⟩ n) := by
 unfold En.life
 split
 · obtain ⟨_, _, hp⟩ := h.node hR hs
   exact h.setT (kX _ _) hR ⟨hp.running (by omega), .inr ⟨k, s, rfl, hs, .inr ⟨rfl, h3⟩⟩⟩
 · exact h
theorem qk {S : En} {id k : Nat} {R : Rn} {s : Sp} {st : Int} (hR : S.getR id = some R) (hs : R.steps[k]? = some s) : (S.leave id k).setR id ((R.setS k { s with token := 0 }).setS k { s with token := 0, state := st }) = { S.setR id (R.setS k ⟨st, s.tries, 0⟩) with tasks := S.tasks.eraseP (·.1 == s.token), tms := (S.tms.filter fun x => x.1 != ⟨id, (k : Int), 1⟩).filter fun x => x.1 != ⟨id, (k : Int), 2⟩ } := by
 rw [jW, dm hR hs]
 show ((({ S with tasks := S.tasks.eraseP (·.1 == s.token) }.setR id (R.setS k { s with token := 0 })).setR id _).unset _).unset _ = _
 rw [dX]
 rfl
theorem Ok.task {S : En} (h : Ok S) {id k : Nat} {R : Rn} {s : Sp} (hR : S.getR id = some R) (hs : R.steps[k]? = some s) (h3 : s.state = 3) : (s.token, (⟨id, (k : Int), 0⟩ : Pl)) ∈ S.tasks := by
 rw [h.tasks]
 exact ⟨id, k, s, rfl, eY hR hs, h3, rfl⟩
theorem Ok.part {S : En} (h : Ok S) {id k : Nat} {R : Rn} {s : Sp} {n : Node} (hR : S.getR id = some R) (hs : R.steps[k]? = some s) (hn : R.fl.nodes[k]? = some n) (h3 : s.state = 3) {st : Int} (hst : st = 5 ∨ (st = 4 ∧ s.tries < n.budget) ∨ (st = 6 ∧ s.tries = n.budget)) : Ok ((S.leave id k).setR id ((R.setS k { s with token := 0 }).setS k { s with token := 0, state := st })) := by
 rw [qk hR hs]
 have hp := (h.run id R hR).sp k s n hs hn
 have hrun := hp.running (by omega)
 have htk := h.task hR hs h3
 have hno : (⟨id, (k : Int), 0⟩ : Pl) ∉ S.queue := by
  rw [h.queue]
  rintro ⟨a, j, u, e, h1, h2⟩
  obtain ⟨rfl, rfl, _⟩ := eP e
  rw [eY hR hs] at h1
  injection h1 with h1
  subst h1
  omega
 refine h.turn (s' := ⟨st, s.tries, 0⟩) hR hs hn h.now rfl setR_keys rfl rfl (iI hR) ?_ (gC h.tkeys List.eraseP_sublist) (fun t ht => h.tlow t (List.mem_of_mem_eraseP ht)) ?_ h.qnd ?_ (gC h.knd (List.filter_sublist.trans List.filter_sublist)) ?_
 · exact ⟨by show 1 ≤ st; omega, by show st ≤ 7; omega, hp.tr0, hp.trb, fun e => by replace e : st = 1 ∨ st = 2 ∨ st = 4 := e; show s.tries < _; omega, fun e => by replace e : st = 1 := e; omega, fun e => by replace e : st = 3 := e; omega, fun _ => rfl, fun e => by replace e : st = 6 := e; show s.tries = _; omega, fun e => absurd hrun e⟩
 · intro t p
   show (t, p) ∈ S.tasks.eraseP (·.1 == s.token) ↔ _
   rw [kz h.tkeys]
   constructor
   · rintro ⟨hm, hne⟩
     refine .inl ⟨hm, ?_⟩
     rintro rfl
     obtain ⟨a, j, u, e, h1, h2, h4⟩ := (h.tasks _ _).1 hm
     obtain ⟨rfl, rfl, _⟩ := eP e
     rw [eY hR hs] at h1
     injection h1 with h1
     subst h1
     exact hne h4.symm
   · rintro (⟨hm, hne⟩ | ⟨e, _⟩)
     · refine ⟨hm, fun e => hne ?_⟩
       have := eg h.tkeys hm htk e
       injection this
     · replace e : st = 3 := e
       omega
 · intro p
   show p ∈ S.queue ↔ _
   constructor
   · intro hm
     refine .inl ⟨hm, ?_⟩
     rintro rfl
     exact hno hm
   · rintro (⟨hm, _⟩ | ⟨e, _⟩)
     · exact hm
     · replace e : st = 2 := e
       omega
 · intro x hx
   obtain ⟨h1, h2⟩ := List.mem_filter.1 hx
   obtain ⟨h4, h5⟩ := List.mem_filter.1 h1
   refine .inl ⟨h4, fun e => ?_, fun e => ?_⟩
   · rw [e] at h5; simp at h5
   · rw [e] at h2; simp at h2
def En.handT (S : En) (id k : Nat) (q : List Pl) (R : Rn) (s : Sp) : En := { S.setR id (R.setS k ⟨3, s.tries + 1, S.lastToken + 1⟩) with queue := q, lastToken := S.lastToken + 1, tasks := S.tasks ++ [(S.lastToken + 1, ⟨id, (k : Int), 0⟩)] }
theorem Ok.handT {S : En} (h : Ok S) {id k : Nat} {q : List Pl} (hq : S.queue = ⟨id, (k : Int), 0⟩ :: q) {R : Rn} {s : Sp} {n : Node} (hR : S.getR id = some R) (hs : R.steps[k]? = some s) (hn : R.fl.nodes[k]? = some n) : s.state = 2 ∧ Ok (S.handT id k q R s) := by
 have h2 : s.state = 2 := by
  obtain ⟨a, j, u, e, h1, h2⟩ := (h.queue ⟨id, (k : Int), 0⟩).1 (by rw [hq]; exact .head _)
  obtain ⟨rfl, rfl, _⟩ := eP e
  rw [eY hR hs] at h1
  injection h1 with h1
  subst h1
  exact h2
 refine ⟨h2, ?_⟩
 have hp := (h.run id R hR).sp k s n hs hn
 have hrun := hp.running (by omega)
 have hqn := h.qnd
 rw [hq, List.nodup_cons] at hqn
 have hno : ∀ t ∈ S.tasks, t.1 ≠ S.lastToken + 1 := fun t ht e => by have := (h.tlow t ht).2; omega
 have hnt : ∀ t, (t, (⟨id, (k : Int), 0⟩ : Pl)) ∉ S.tasks := fun t => by
  rw [h.tasks]
  rintro ⟨a, j, u, e, h1, h4, _⟩
  obtain ⟨rfl, rfl, _⟩ := eP e
  rw [eY hR hs] at h1
  injection h1 with h1
  subst h1
  omega
 refine h.turn (s' := ⟨3, s.tries + 1, S.lastToken + 1⟩) hR hs hn h.now rfl setR_keys rfl rfl (iI hR) ?_ ?_ ?_ ?_ hqn.2 ?_ h.knd ?_
 · have h5 := hp.low (by omega)
   have h6 := hp.tr0
   exact ⟨by show (1 : Int) ≤ 3; omega, by show (3 : Int) ≤ 7; omega, by show 0 ≤ s.tries + 1; omega, by show s.tries + 1 ≤ _; omega, fun e => by replace e : (3 : Int) = 1 ∨ (3 : Int) = 2 ∨ (3 : Int) = 4 := e; omega, fun e => by replace e : (3 : Int) = 1 := e; omega, fun _ => by show 1 ≤ s.tries + 1; omega, fun e => absurd rfl e, fun e => by replace e : (3 : Int) = 6 := e; omega, fun e => absurd hrun e⟩
 · show ((S.tasks ++ [(S.lastToken + 1, (⟨id, (k : Int), 0⟩ : Pl))]).map (·.1)).Nodup
   rw [List.map_append, List.nodup_append]
   refine ⟨h.tkeys, by simp, ?_⟩
   intro x hx y hy
   simp at hy
   subst hy
   rintro rfl
   obtain ⟨u, hu, he⟩ := List.mem_map.1 hx
   exact hno u hu he
 · intro t ht
   show 1 ≤ t.1 ∧ t.1 ≤ S.lastToken + 1
   rcases List.mem_append.1 ht with ht | ht
   · have := h.tlow t ht
     omega
   · rw [List.mem_singleton] at ht
     subst ht
     exact ⟨by show 1 ≤ S.lastToken + 1; omega, by show S.lastToken + 1 ≤ S.lastToken + 1; omega⟩
 · intro t p
   show (t, p) ∈ S.tasks ++ [(S.lastToken + 1, (⟨id, (k : Int), 0⟩ : Pl))] ↔ _
   rw [List.mem_append, List.mem_singleton]
   constructor
   · rintro (hm | e)
     · refine .inl ⟨hm, ?_⟩
       rintro rfl
       exact hnt t hm
     · injection e with e1 e2
       exact .inr ⟨rfl, e1, e2⟩
   · rintro (⟨hm, _⟩ | ⟨_, rfl, rfl⟩)
     · exact .inl hm
     · exact .inr rfl
 · intro p
   show p ∈ q ↔ _
   rw [hq]
   constructor
   · intro hm
     refine .inl ⟨.tail _ hm, ?_⟩
     rintro rfl
     exact hqn.1 hm
   · rintro (⟨hm, hne⟩ | ⟨e, _⟩)
     · rcases List.mem_cons.1 hm with rfl | hm
       · exact absurd rfl hne
       · exact hm
     · exact absurd (show (3 : Int) = 2 from e) (by decide)
 · intro x hx
   exact .inl ⟨hx, fun _ => .inl rfl, fun _ => rfl⟩
structure EndAt (S U : En) (id : Nat) (RT : Rn) (n : Nat) : Prop where
 run : ∃ R', U.getR id = some R' ∧ R'.fl = RT.fl ∧ R'.state = RT.state ∧ R'.ended = RT.ended ∧ R'.steps.length = RT.steps.length ∧ ∀ (j : Nat) (s : Sp), RT.steps[j]? = some s → R'.steps[j]? = some (if j < n then ez { s with token := 0 } else s)
 others : ∀ a, a ≠ id → U.getR a = S.getR a
 keys : U.runs.map (·.1) = S.runs.map (·.1)
 tsub : U.tasks.Sublist S.tasks
 tasks : ∀ t p, (t, p) ∈ U.tasks ↔ (t, p) ∈ S.tasks ∧ ∀ j : Nat, j < n → p ≠ ⟨id, (j : Int), 0⟩
 msub : U.tms.Sublist S.tms
 tms : ∀ x, x ∈ U.tms ↔ x ∈ S.tms ∧ ∀ j : Nat, j < n → x.1 ≠ ⟨id, (j : Int), 1⟩ ∧ x.1 ≠ ⟨id, (j : Int), 2⟩
 queue : U.queue = S.queue
 now : U.now = S.now
 seed : U.seed = S.seed
 lastRun : U.lastRun = S.lastRun
 lastToken : U.lastToken = S.lastToken
 ends : U.ends = S.ends
 sets : U.sets = S.sets
structure TaskAt (T : En) (id : Nat) (RT : Rn) : Prop where
 get : T.getR id = some RT
 keys : (T.tasks.map (·.1)).Nodup
 low : ∀ t ∈ T.tasks, 1 ≤ t.1
 tasks : ∀ t (k : Nat), (t, (⟨id, (k : Int), 0⟩ : Pl)) ∈ T.tasks ↔ ∃ s, RT.steps[k]? = some s ∧ s.state = 3 ∧ s.token = t
 idle : ∀ (k : Nat) (s : Sp), RT.steps[k]? = some s → s.state ≠ 3 → s.token = 0
theorem vH {T : En} {id : Nat} {RT : Rn} (h : TaskAt T id RT) : ∀ n, n ≤ RT.steps.length → EndAt T (T.endN id n) id RT n
 | 0, _ => ⟨⟨RT, h.get, rfl, rfl, rfl, rfl, fun j s hj => by simpa using hj⟩, fun _ _ => rfl, rfl, List.Sublist.refl _, fun t p => by simp [En.endN], List.Sublist.refl _, fun x => by simp [En.endN], rfl, rfl, rfl, rfl, rfl, rfl, rfl⟩
 | n + 1, hn => by
  have ih := vH h n (by omega)
  obtain ⟨R', g1, g2, g3, g4, g5, g6⟩ := ih.run
  obtain ⟨s, hs⟩ : ∃ s, RT.steps[n]? = some s := ⟨RT.steps[n]'(by omega), by simp⟩
  have hs' : R'.steps[n]? = some s := by simpa using g6 n s hs
  rw [kb, mX g1 hs']
  have hpe := qk (st := (ez { s with token := 0 }).state) g1 hs'
  have hee : ({ ({ s with token := 0 } : Sp) with state := (ez { s with token := 0 }).state } : Sp) = ez { s with token := 0 } := by
   unfold ez
   split <;> rfl
  have hee2 : (⟨(ez { s with token := 0 }).state, s.tries, 0⟩ : Sp) = ez { s with token := 0 } := by
   unfold ez
   split <;> rfl
  have hpe' : ((T.endN id n).leave id n).setR id ((R'.setS n { s with token := 0 }).setS n (ez { s with token := 0 })) = { (T.endN id n).setR id (R'.setS n (ez { s with token := 0 })) with tasks := (T.endN id n).tasks.eraseP (·.1 == s.token), tms := ((T.endN id n).tms.filter fun x => x.1 != ⟨id, (n : Int), 1⟩).filter fun x => x.1 != ⟨id, (n : Int), 2⟩ } := by
   rw [← hee2, ← hpe]
  rw [hpe']
  refine ⟨⟨R'.setS n (ez { s with token := 0 }), cg g1, g2, g3, g4, by simpa [Rn.setS] using g5, fun j u hj => ?_⟩, fun a ha => ?_, ?_, (List.eraseP_sublist).trans ih.tsub, fun t p => ?_, (List.filter_sublist.trans List.filter_sublist).trans ih.msub, fun x => ?_, ih.queue, ih.now, ih.seed, ih.lastRun, ih.lastToken, ih.ends, ih.sets⟩
  · show (R'.steps.set n _)[j]? = _
    by_cases hjn : j = n
    · subst hjn
      rw [hs] at hj
      injection hj with hj
      subst hj
      rw [List.getElem?_set_self (by rw [g5]; omega), if_pos (by omega)]
    · rw [List.getElem?_set_ne (Ne.symm hjn), g6 j u hj]
      by_cases hlt : j < n
      · rw [if_pos hlt, if_pos (by omega)]
      · rw [if_neg hlt, if_neg (by omega)]
  · show ((T.endN id n).setR id _).getR a = _
    rw [dM ha, ih.others a ha]
  · show ((T.endN id n).setR id _).runs.map (·.1) = _
    rw [setR_keys, ih.keys]
  · show (t, p) ∈ (T.endN id n).tasks.eraseP (·.1 == s.token) ↔ _
    rw [kz (gC h.keys ih.tsub), ih.tasks]
    constructor
    · rintro ⟨⟨h1, h2⟩, h3⟩
      refine ⟨h1, fun j hj => ?_⟩
      by_cases hjn : j = n
      · subst hjn
        rintro rfl
        obtain ⟨u, hu, _, h5⟩ := (h.tasks t j).1 h1
        rw [hs] at hu
        injection hu with hu
        subst hu
        exact h3 h5.symm
      · exact h2 j (by omega)
    · rintro ⟨h1, h2⟩
      refine ⟨⟨h1, fun j hj => h2 j (by omega)⟩, fun e => ?_⟩
      by_cases h3 : s.state = 3
      · have h4 : (s.token, (⟨id, (n : Int), 0⟩ : Pl)) ∈ T.tasks := (h.tasks _ _).2 ⟨s, hs, h3, rfl⟩
        have := eg h.keys h1 h4 e
        injection this with _ e2
        exact h2 n (by omega) e2
      · have := h.idle n s hs h3
        have h5 := h.low _ h1
        replace e : t = s.token := e
        simp only at h5
        omega
  · show x ∈ ((T.endN id n).tms.filter fun x => x.1 != ⟨id, (n : Int), 1⟩).filter (fun x => x.1 != ⟨id, (n : Int), 2⟩) ↔ _
    rw [List.mem_filter, List.mem_filter, ih.tms]
    constructor
    · rintro ⟨⟨⟨h1, h2⟩, h3⟩, h4⟩
      refine ⟨h1, fun j hj => ?_⟩
      by_cases hjn : j = n
      · subst hjn
        exact ⟨by simpa using h3, by simpa using h4⟩
      · exact h2 j (by omega)
    · rintro ⟨h1, h2⟩
      exact ⟨⟨⟨h1, fun j hj => h2 j (by omega)⟩, by simpa using (h2 n (by omega)).1⟩, by simpa using (h2 n (by omega)).2⟩
end FK

namespace FK
theorem RnOk.mono {a b : Nat} {R : Rn} (h : RnOk a R) (hab : a ≤ b) : RnOk b R := ⟨h.fl, h.len, h.sp, h.ended, Nat.le_trans h.ends hab⟩
structure Ended (S U : En) (id : Nat) (st : Int) (R : Rn) : Prop where
 run : ∃ R', U.getR id = some R' ∧ R'.fl = R.fl ∧ R'.state = st ∧ R'.ended = S.ends + 1 ∧ R'.steps.length = R.steps.length ∧ ∀ (j : Nat) (s : Sp), R.steps[j]? = some s → R'.steps[j]? = some (ez { s with token := 0 })
 others : ∀ a, a ≠ id → U.getR a = S.getR a
 keys : U.runs.map (·.1) = S.runs.map (·.1)
 tsub : U.tasks.Sublist S.tasks
 tasks : ∀ t p, (t, p) ∈ U.tasks ↔ (t, p) ∈ S.tasks ∧ p.run ≠ id
 msub : U.tms.Sublist S.tms
 tms : ∀ x, x ∈ U.tms ↔ x ∈ S.tms ∧ x.1.run ≠ id
 queue : U.queue = S.queue.filter fun p => p.run != id
 now : U.now = S.now
 seed : U.seed = S.seed
 lastRun : U.lastRun = S.lastRun
 lastToken : U.lastToken = S.lastToken
 ends : U.ends = S.ends + 1
 sets : U.sets = S.sets
theorem Ok.ended {S : En} (h : Ok S) {id : Nat} {R : Rn} (hR : S.getR id = some R) (st : Int) : Ended S (S.finish id st) id st R := by
 rw [pC hR]
 simp only
 obtain ⟨RT, hRT⟩ : ∃ RT : Rn, RT = { R with state := st, ended := S.ends + 1 } := ⟨_, rfl⟩
 obtain ⟨T, hT⟩ : ∃ T, T = ({ S with ends := S.ends + 1 }.setR id RT).unset ⟨id, -1, 0⟩ := ⟨_, rfl⟩
 rw [← hRT, ← hT]
 have hsteps : RT.steps = R.steps := by rw [hRT]
 have hget : ∀ a, T.getR a = if a = id then some RT else S.getR a := fun a => by
  rw [hT]
  exact iI (S := { S with ends := S.ends + 1 }) hR a
 have htk : T.tasks = S.tasks := by rw [hT]; rfl
 have htm : T.tms = S.tms.filter fun x => x.1 != ⟨id, -1, 0⟩ := by rw [hT]; rfl
 have hkeys : T.runs.map (·.1) = S.runs.map (·.1) := by rw [hT]; exact setR_keys (S := { S with ends := S.ends + 1 })
 have ht : TaskAt T id RT := by
  refine ⟨by rw [hget, if_pos rfl], by rw [htk]; exact h.tkeys, fun t ht => (h.tlow t (by rw [← htk]; exact ht)).1, fun t k => ?_, fun k s hs => ?_⟩
  · rw [htk, h.tasks, hsteps]
    constructor
    · rintro ⟨a, j, s, e, h1, h2, h3⟩
      obtain ⟨rfl, rfl, _⟩ := eP e
      obtain ⟨R1, hR1, h4⟩ := ib h1
      rw [hR] at hR1
      injection hR1 with hR1
      subst hR1
      exact ⟨s, h4, h2, h3⟩
    · rintro ⟨s, h1, h2, h3⟩
      exact ⟨id, k, s, rfl, eY hR h1, h2, h3⟩
  · rw [hsteps] at hs
    obtain ⟨n, _, hp⟩ := h.node hR hs
    exact hp.idle
 have hlen : R.steps.length ≤ RT.steps.length := by rw [hsteps]; exact Nat.le_refl _
 have hU := vH ht R.steps.length hlen
 obtain ⟨U, hUe⟩ : ∃ U, U = T.endN id R.steps.length := ⟨_, rfl⟩
 rw [← hUe] at hU ⊢
 obtain ⟨R', g1, g2, g3, g4, g5, g6⟩ := hU.run
 have hTt : ∀ t p, (t, p) ∈ S.tasks → p.run = id → ∃ j : Nat, j < R.steps.length ∧ p = ⟨id, (j : Int), 0⟩ := fun t p hm hp => by
  obtain ⟨a, j, s, rfl, h1, h2, h3⟩ := (h.tasks t p).1 hm
  replace hp : a = id := hp
  subst hp
  obtain ⟨R1, hR1, h4⟩ := ib h1
  rw [hR] at hR1
  injection hR1 with hR1
  subst hR1
  exact ⟨j, (List.getElem?_eq_some_iff.1 h4).1, rfl⟩
 refine ⟨⟨R', g1, by rw [g2, hRT], by rw [g3, hRT], by rw [g4, hRT], by rw [g5, hsteps], fun j s hj => ?_⟩, fun a ha => ?_, ?_, ?_, fun t p => ?_, ?_, fun x => ?_, ?_, ?_, ?_, ?_, ?_, ?_, ?_⟩
 · have := g6 j s (by rw [hsteps]; exact hj)
   rw [if_pos (List.getElem?_eq_some_iff.1 hj).1] at this
   exact this
 · show U.getR a = _
   rw [hU.others a ha, hget, if_neg ha]
 · exact hU.keys.trans hkeys
 · exact htk ▸ hU.tsub
 · show (t, p) ∈ U.tasks ↔ _
   rw [hU.tasks, htk]
   constructor
   · rintro ⟨h1, h2⟩
     refine ⟨h1, fun e => ?_⟩
     obtain ⟨j, hj, he⟩ := hTt t p h1 e
     exact h2 j hj he
   · rintro ⟨h1, h2⟩
     refine ⟨h1, fun j _ e => h2 ?_⟩
     rw [e]
 · exact hU.msub.trans (by rw [htm]; exact List.filter_sublist)
 · show x ∈ U.tms ↔ _
   rw [hU.tms, htm, List.mem_filter]
   constructor
   · rintro ⟨⟨h1, h2⟩, h3⟩
     refine ⟨h1, fun e => ?_⟩
     obtain ⟨_, R1, hR1, _, hat⟩ := h.tms x h1
     obtain ⟨⟨p1, p2, p3⟩, x2⟩ := x
     simp only at e hR1 hat h2 h3
     subst e
     rw [hR] at hR1
     injection hR1 with hR1
     subst hR1
     rcases hat with ⟨rfl, rfl⟩ | ⟨j, u, rfl, e2, e3⟩
     · simp at h2
     · have hj := h3 j (List.getElem?_eq_some_iff.1 e2).1
       rcases e3 with ⟨rfl, _⟩ | ⟨rfl, _⟩
       · exact hj.1 rfl
       · exact hj.2 rfl
   · rintro ⟨h1, h2⟩
     refine ⟨⟨h1, ?_⟩, fun j _ => ⟨fun e => h2 (by rw [e]), fun e => h2 (by rw [e])⟩⟩
     have : x.1 ≠ ⟨id, -1, 0⟩ := fun e => h2 (by rw [e])
     simpa using this
 · show U.queue.filter _ = _
   rw [hU.queue, hT]
   rfl
 · exact hU.now.trans (by rw [hT]; rfl)
 · exact hU.seed.trans (by rw [hT]; rfl)
 · exact hU.lastRun.trans (by rw [hT]; rfl)
 · exact hU.lastToken.trans (by rw [hT]; rfl)
 · exact hU.ends.trans (by rw [hT]; rfl)
 · exact hU.sets.trans (by rw [hT]; rfl)
theorem kA (s : Sp) : (ez s).state = 5 ∨ (ez s).state = 6 ∨ (ez s).state = 7 := by
 unfold ez
 split
 · omega
 · exact .inr (.inr rfl)
theorem oh (s : Sp) : (ez s).tries = s.tries := by
 unfold ez
 split <;> rfl
theorem uC (s : Sp) : (ez s).token = s.token := by
 unfold ez
 split <;> rfl
theorem Ok.ends {S U : En} (h : Ok S) {id : Nat} {R : Rn} (hR : S.getR id = some R) {st : Int} (hst : st ≠ 1) (he : Ended S U id st R) : Ok U := by
 obtain ⟨R', g1, g2, g3, g4, g5, g6⟩ := he.run
 have hr := h.run id R hR
 have hover : ∀ (j : Nat) (u : Sp), R'.steps[j]? = some u → ∃ s, R.steps[j]? = some s ∧ u = ez { s with token := 0 } := fun j u hj => by
  have hlt : j < R.steps.length := by rw [← g5]; exact (List.getElem?_eq_some_iff.1 hj).1
  have hs : R.steps[j]? = some R.steps[j] := List.getElem?_eq_getElem hlt
  have := g6 j _ hs
  rw [hj] at this
  injection this with this
  exact ⟨_, hs, this⟩
 have hstp : ∀ (a j : Nat), a ≠ id → U.stp a j = S.stp a j := fun a j ha => by
  unfold En.stp
  rw [he.others a ha]
 have hid : ∀ (j : Nat) (u : Sp), U.stp id j = some u → u.state = 5 ∨ u.state = 6 ∨ u.state = 7 := fun j u hj => by
  obtain ⟨R1, hR1, h4⟩ := ib hj
  rw [g1] at hR1
  injection hR1 with hR1
  subst hR1
  obtain ⟨s, _, rfl⟩ := hover j u h4
  exact kA _
 refine ⟨by rw [he.now]; exact h.now, by rw [he.seed]; exact h.seed, by rw [he.keys]; exact h.ids, by rw [he.keys, he.lastRun]; exact h.low, ?_, fun a Ra ha => ?_, gC h.tkeys he.tsub, fun t ht => ?_, fun t p => ?_, ?_, fun p => ?_, gC h.knd he.msub, fun x hx => ?_⟩
 · have := congrArg List.length he.keys
   simp only [List.length_map] at this
   have := h.six
   omega
 · rw [he.ends]
   by_cases hai : a = id
   · subst hai
     rw [g1] at ha
     injection ha with ha
     subst ha
     refine ⟨by rw [g2]; exact hr.fl, by rw [g5, g2]; exact hr.len, fun j u m hj hm => ?_, ?_, by rw [g4]; exact Nat.le_refl _⟩
     · obtain ⟨s, hs, rfl⟩ := hover j u hj
       rw [g2] at hm
       have hp := hr.sp j s m hs hm
       have h5 := kA { s with token := 0 }
       have h6 := oh { s with token := 0 }
       have h7 := uC { s with token := 0 }
       refine ⟨by omega, by omega, by rw [h6]; exact hp.tr0, by rw [h6]; exact hp.trb, fun e => by omega, fun e => by omega, fun e => by omega, fun _ => h7, fun e => ?_, fun _ => h5⟩
       rw [h6]
       refine hp.dead ?_
       unfold ez at e
       split at e
       · exact e
       · exact absurd (show (7 : Int) = 6 from e) (by decide)
     · rw [g3, g4]
       constructor
       · intro e; omega
       · intro e; exact absurd e hst
   · rw [he.others a hai] at ha
     exact (h.run a Ra ha).mono (Nat.le_succ _)
 · rw [he.lastToken]
   exact h.tlow t (he.tsub.subset ht)
 · rw [he.tasks, h.tasks]
   constructor
   · rintro ⟨⟨a, j, s, rfl, h1, h2, h3⟩, hne⟩
     exact ⟨a, j, s, rfl, by rw [hstp a j hne]; exact h1, h2, h3⟩
   · rintro ⟨a, j, s, rfl, h1, h2, h3⟩
     have hne : a ≠ id := by
      rintro rfl
      have := hid j s h1
      omega
     rw [hstp a j hne] at h1
     exact ⟨⟨a, j, s, rfl, h1, h2, h3⟩, hne⟩
 · rw [he.queue]
   exact h.qnd.sublist List.filter_sublist
 · rw [he.queue, List.mem_filter, h.queue]
   constructor
   · rintro ⟨⟨a, j, s, rfl, h1, h2⟩, hne⟩
     have hne' : a ≠ id := by simpa using hne
     exact ⟨a, j, s, rfl, by rw [hstp a j hne']; exact h1, h2⟩
   · rintro ⟨a, j, s, rfl, h1, h2⟩
     have hne : a ≠ id := by
      rintro rfl
      have := hid j s h1
      omega
     rw [hstp a j hne] at h1
     exact ⟨⟨a, j, s, rfl, h1, h2⟩, by simpa using hne⟩
 · obtain ⟨h1, h2⟩ := (he.tms x).1 hx
   obtain ⟨hb, R1, hR1, hat⟩ := h.tms x h1
   exact ⟨hb, R1, by rw [he.others _ h2]; exact hR1, hat⟩
theorem Ok.finish {S : En} (h : Ok S) {id : Nat} {R : Rn} (hR : S.getR id = some R) {st : Int} (hst : st ≠ 1) : Ok (S.finish id st) := h.ends hR hst (h.ended hR st)
theorem Ok.settle {S : En} (h : Ok S) (id : Nat) : Ok (S.settle id) := by
 unfold En.settle
 split
 · rename_i R hR
   split
   · exact h.finish hR (by split <;> decide)
   · exact h
 · exact h
theorem lL {S : En} {id : Nat} {R : Rn} (h : Ok S) (hR : S.getR id = some R) : S.setR id R = S := by
 have : (S.runs.map fun r => if r.1 == id then (r.1, R) else r) = S.runs := by
  have hm : ∀ r ∈ S.runs, (if r.1 == id then (r.1, R) else r) = r := fun r hr => by
   by_cases he : r.1 = id
   · have h1 : (id, R) ∈ S.runs := by
      unfold En.getR at hR
      cases hf : S.runs.find? (·.1 == id) with
      | none => rw [hf] at hR; cases hR
      | some x =>
       rw [hf] at hR
       injection hR with hR
       have h2 := List.mem_of_find?_eq_some hf
       have h3 := List.find?_some hf
       obtain ⟨x1, x2⟩ := x
       have : x1 = id := by simpa using h3
       subst this
       have : x2 = R := hR
       subst this
       exact h2
     have := eg h.ids hr h1 he
     rw [this]
     simp
   · simp [he]
  conv => rhs; rw [← List.map_id S.runs]
  exact List.map_congr_left hm
 unfold En.setR
 rw [this]
theorem Ok.skip1 {S : En} (h : Ok S) {id : Nat} {R : Rn} (hR : S.getR id = some R) (k : Nat) : Ok (S.setR id { R with steps := bS R.fl.nodes R.steps k }) := by
 unfold bS
 split
 · rename_i s n hs hn
   split
   · rename_i hc
     have hp := (h.run id R hR).sp k s n hs hn
     have hrun := hp.running (by omega)
     have h0 := hp.idle (by omega)
     refine h.turn (S' := S.setR id { R with steps := R.steps.set k { s with state := 7 } }) (s' := { s with state := 7 }) hR hs hn h.now rfl setR_keys rfl rfl (iI hR) ?_ h.tkeys h.tlow ?_ h.qnd ?_ h.knd ?_
     · exact ⟨by show (1 : Int) ≤ 7; omega, by show (7 : Int) ≤ 7; omega, hp.tr0, hp.trb, fun e => by replace e : (7 : Int) = 1 ∨ (7 : Int) = 2 ∨ (7 : Int) = 4 := e; omega, fun e => by replace e : (7 : Int) = 1 := e; omega, fun e => by replace e : (7 : Int) = 3 := e; omega, fun _ => h0, fun e => by replace e : (7 : Int) = 6 := e; omega, fun e => absurd hrun e⟩
     · intro t p
       show (t, p) ∈ S.tasks ↔ _
       constructor
       · intro hm
         refine .inl ⟨hm, ?_⟩
         rintro rfl
         obtain ⟨a, j, u, e, h1, h2, h4⟩ := (h.tasks _ _).1 hm
         obtain ⟨rfl, rfl, _⟩ := eP e
         rw [eY hR hs] at h1
         injection h1 with h1
         subst h1
         omega
       · rintro (⟨hm, hne⟩ | ⟨e, _⟩)
         · exact hm
         · replace e : (7 : Int) = 3 := e
           omega
     · intro p
       show p ∈ S.queue ↔ _
       constructor
       · intro hm
         refine .inl ⟨hm, ?_⟩
         rintro rfl
         obtain ⟨a, j, u, e, h1, h2⟩ := (h.queue _).1 hm
         obtain ⟨rfl, rfl, _⟩ := eP e
         rw [eY hR hs] at h1
         injection h1 with h1
         subst h1
         omega
       · rintro (⟨hm, _⟩ | ⟨e, _⟩)
         · exact hm
         · replace e : (7 : Int) = 2 := e
           omega
     · intro x hx
       obtain ⟨_, R1, hR1, _, hat⟩ := h.tms x hx
       have hx1 : x.1.run = id → x.1.node = (k : Int) → x.1.what = 1 ∨ x.1.what = 2 → False := fun e1 e2 e3 => by
        rw [e1, hR] at hR1
        injection hR1 with hR1
        subst hR1
        rcases hat with ⟨e4, _⟩ | ⟨j, u, e4, e5, e6⟩
        · omega
        · have : k = j := by omega
          subst this
          rw [hs] at e5
          injection e5 with e5
          subst e5
          omega
       refine .inl ⟨hx, fun e => ?_, fun e => ?_⟩
       · exact (hx1 (by rw [e]) (by rw [e]) (by rw [e]; exact .inl rfl)).elim
       · exact (hx1 (by rw [e]) (by rw [e]) (by rw [e]; exact .inr rfl)).elim
   · rw [show ({ R with steps := R.steps } : Rn) = R from rfl, lL h hR]; exact h
 · rw [show ({ R with steps := R.steps } : Rn) = R from rfl, lL h hR]; exact h
theorem Ok.skips {id : Nat} : ∀ (T : List Nat) {S : En} (_ : Ok S) {R : Rn} (_ : S.getR id = some R), Ok (S.setR id (R.skips T))
 | [], S, h, R, hR => by
  show Ok (S.setR id R)
  rw [lL h hR]
  exact h
 | k :: T, S, h, R, hR => by
  have h1 := h.skip1 hR k
  have := Ok.skips T h1 (cg hR)
  rw [dX] at this
  exact this
theorem j3 {S : En} {id k : Nat} {R R' : Rn} {s : Sp} (hR : S.getR id = some R) (hs : R.steps[k]? = some s) : ((S.leave id k).setR id R').getR id = some R' := cg (fV hR hs)
theorem Ok.rests {S : En} (h : Ok S) {id k : Nat} {R : Rn} {s : Sp} {n : Node} (hR : S.getR id = some R) (hs : R.steps[k]? = some s) (hn : R.fl.nodes[k]? = some n) (h3 : s.state = 3) (hb : s.tries < n.budget) (wait : Nat) : Ok (S.rests id k R s wait) := by
 have h1 := h.part hR hs hn h3 (st := 4) (.inr (.inl ⟨rfl, hb⟩))
 have hrun := ((h.run id R hR).sp k s n hs hn).running (by omega)
 have hg : ((S.leave id k).setR id (R.turned k s 4)).getR id = some (R.turned k s 4) := j3 hR hs
 exact h1.setT (kX _ _) hg ⟨hrun, .inr ⟨k, _, rfl, cd (cd hs), .inl ⟨rfl, .inr rfl⟩⟩⟩
theorem Ok.dies {S : En} (h : Ok S) {id k : Nat} {R : Rn} {s : Sp} {n : Node} (hR : S.getR id = some R) (hs : R.steps[k]? = some s) (hn : R.fl.nodes[k]? = some n) (h3 : s.state = 3) (hb : s.tries = n.budget) (T : List Nat) : Ok (S.dies id k R s T) := by
 have h1 := h.part hR hs hn h3 (st := 6) (.inr (.inr ⟨rfl, hb⟩))
 have h2 := Ok.skips (id := id) T h1 (j3 hR hs)
 rw [dX] at h2
 exact h2.settle id
theorem mG {S : En} {t id k : Nat} {R : Rn} {s : Sp} (ht : (S.tasks.find? (·.1 == t)).map (·.2) = some ⟨id, (k : Int), 0⟩) (hR : S.getR id = some R) (hs : R.steps[k]? = some s) : S.complete t = (((S.leave id k).setR id (R.turned k s 5)).wake id).settle id := by
 unfold En.complete
 rw [ht]
 simp only [Int.toNat_natCast]
 rw [m8 _ (fV hR hs) (cd hs)]
 rfl
theorem Ok.find {S : En} (h : Ok S) {t : Nat} {p : Pl} (ht : (S.tasks.find? (·.1 == t)).map (·.2) = some p) : ∃ (id k : Nat) (R : Rn) (s : Sp) (n : Node), p = ⟨id, (k : Int), 0⟩ ∧ S.getR id = some R ∧ R.steps[k]? = some s ∧ R.fl.nodes[k]? = some n ∧ s.state = 3 ∧ s.token = t := by
 cases hf : S.tasks.find? (·.1 == t) with
 | none => rw [hf] at ht; cases ht
 | some x =>
  rw [hf] at ht
  injection ht with ht
  have h2 := List.mem_of_find?_eq_some hf
  have h3 := List.find?_some hf
  obtain ⟨x1, x2⟩ := x
  have : x1 = t := by simpa using h3
  subst this
  have : x2 = p := ht
  subst this
  obtain ⟨id, k, s, e, h4, h5, h6⟩ := (h.tasks _ _).1 h2
  obtain ⟨R, hR, hs⟩ := ib h4
  obtain ⟨n, hn, _⟩ := h.node hR hs
  exact ⟨id, k, R, s, n, e, hR, hs, hn, h5, h6⟩
theorem Ok.complete {S : En} (h : Ok S) (t : Nat) : Ok (S.complete t) := by
 cases hf : (S.tasks.find? (·.1 == t)).map (·.2) with
 | none => unfold En.complete; rw [hf]; exact h
 | some p =>
  obtain ⟨id, k, R, s, n, rfl, hR, hs, hn, h3, _⟩ := h.find hf
  rw [mG hf hR hs]
  exact ((h.part hR hs hn h3 (st := 5) (.inl rfl)).wake id).settle id
theorem vA {S : En} {id k : Nat} {q : List Pl} {R : Rn} {s : Sp} {n : Node} : S.hand ⟨id, (k : Int), 0⟩ q R s n = (((S.handT id k q R s).setT ⟨id, (k : Int), 1⟩ (S.later n.close.toNat)).life ⟨id, (k : Int), 0⟩ n) := by
 unfold En.hand En.handT
 simp only [Int.toNat_natCast]
 rfl
theorem Ok.hand {S : En} (h : Ok S) {id k : Nat} {q : List Pl} (hq : S.queue = ⟨id, (k : Int), 0⟩ :: q) {R : Rn} {s : Sp} {n : Node} (hR : S.getR id = some R) (hs : R.steps[k]? = some s) (hn : R.fl.nodes[k]? = some n) : Ok (S.hand ⟨id, (k : Int), 0⟩ q R s n) := by
 obtain ⟨h2, hk⟩ := h.handT hq hR hs hn
 rw [vA]
 have hrun := ((h.run id R hR).sp k s n hs hn).running (by omega)
 have hg : (S.handT id k q R s).getR id = some (R.setS k ⟨3, s.tries + 1, S.lastToken + 1⟩) := cg hR
 exact Ok.life (hk.setT (R := R.setS k ⟨3, s.tries + 1, S.lastToken + 1⟩) (kX _ _) hg ⟨hrun, .inr ⟨k, _, rfl, cd hs, .inl ⟨rfl, .inl rfl⟩⟩⟩) n hg (cd hs) rfl
end FK

namespace FK
theorem Ok.fresh : Ok En.fresh where
 now := by decide
 seed := by decide
 ids := by simp [En.fresh]
 low := by simp [En.fresh]
 six := by simp [En.fresh]
 run := by simp [En.fresh, En.getR]
 tkeys := by simp [En.fresh]
 tlow := by simp [En.fresh]
 tasks := by simp [En.fresh, En.stp, En.getR]
 qnd := by simp [En.fresh]
 queue := by simp [En.fresh, En.stp, En.getR]
 knd := by simp [En.fresh]
 tms := by simp [En.fresh]
def En.roomy (S : En) : Bool := S.runs.any (fun r => decide (0 < r.2.ended)) || decide (S.runs.length < 6)
theorem iQ {S : En} {id : Nat} {R : Rn} (hR : S.getR id = some R) : (id, R) ∈ S.runs := by
 unfold En.getR at hR
 cases hf : S.runs.find? (·.1 == id) with
 | none => rw [hf] at hR; cases hR
 | some x =>
  rw [hf] at hR
  injection hR with hR
  have h2 := List.mem_of_find?_eq_some hf
  have h3 := List.find?_some hf
  obtain ⟨x1, x2⟩ := x
  have : x1 = id := by simpa using h3
  subst this
  have : x2 = R := hR
  subst this
  exact h2
theorem lU {S : En} (h : Ok S) (fl : Flow) (a : Nat) : (S.begin fl).getR a = if a = S.lastRun + 1 then some (Rn.begun fl) else S.getR a := by
 by_cases ha : a = S.lastRun + 1
 · subst ha
   rw [if_pos rfl]
   exact oa fun r hr => (h.low r.1 (List.mem_map_of_mem (f := (·.1)) hr)).2
 · rw [if_neg ha]
   unfold En.getR En.begin
   simp only
   rw [List.find?_append]
   have : ([(S.lastRun + 1, Rn.begun fl)] : List (Nat × Rn)).find? (·.1 == a) = none := by
    rw [List.find?_eq_none]
    intro r hr
    rw [List.mem_singleton] at hr
    subst hr
    simp
    omega
   rw [this]
   simp
theorem nJ {fl : Flow} {k : Nat} {s : Sp} (h : (Rn.begun fl).steps[k]? = some s) : s = s1 := by
 have := List.mem_of_getElem? h
 exact List.eq_of_mem_replicate this
theorem Ok.begin {S : En} (h : Ok S) (h5 : S.runs.length ≤ 5) {fl : Flow} (hf : Fit fl) : Ok (S.begin fl) := by
 have hg := lU h fl
 have hnew : S.getR (S.lastRun + 1) = none := by
  cases hR : S.getR (S.lastRun + 1) with
  | none => rfl
  | some R =>
   have := (h.low _ (List.mem_map_of_mem (f := (·.1)) (iQ hR))).2
   simp only at this
   omega
 have hstp : ∀ (a j : Nat) (s : Sp), (S.begin fl).stp a j = some s → s = s1 ∨ S.stp a j = some s := fun a j s hs => by
  obtain ⟨R, hR, h4⟩ := ib hs
  rw [hg] at hR
  split at hR
  · injection hR with hR
    subst hR
    exact .inl (nJ h4)
  · exact .inr (eY hR h4)
 have hstp2 : ∀ (a j : Nat) (s : Sp), S.stp a j = some s → (S.begin fl).stp a j = some s := fun a j s hs => by
  obtain ⟨R, hR, h4⟩ := ib hs
  refine eY ?_ h4
  rw [hg, if_neg]
  · exact hR
  · rintro rfl
    rw [hnew] at hR
    cases hR
 refine ⟨h.now, h.seed, ?_, fun i hi => ?_, ?_, fun a Ra ha => ?_, h.tkeys, h.tlow, fun t p => ?_, h.qnd, fun p => ?_, h.knd, fun x hx => ?_⟩
 · show ((S.runs ++ [(S.lastRun + 1, Rn.begun fl)]).map (·.1)).Nodup
   rw [List.map_append, List.nodup_append]
   refine ⟨h.ids, by simp, ?_⟩
   intro x hx y hy
   simp at hy
   subst hy
   have := h.low x hx
   omega
 · show 1 ≤ i ∧ i ≤ S.lastRun + 1
   have hi' : i ∈ (S.runs ++ [(S.lastRun + 1, Rn.begun fl)]).map (·.1) := hi
   rw [List.map_append, List.mem_append] at hi'
   rcases hi' with hi' | hi'
   · have := h.low i hi'
     omega
   · simp at hi'
     omega
 · show (S.runs ++ [_]).length ≤ 6
   simp
   omega
 · rw [hg] at ha
   split at ha
   · injection ha with ha
     subst ha
     refine ⟨hf, by simp [Rn.begun], fun k s n hs hn => ?_, by simp [Rn.begun], Nat.zero_le _⟩
     rw [nJ hs]
     have hb := (hf.nodes k n (bx hn) hn).1
     obtain ⟨b1, b2, _⟩ := hb
     exact ⟨by decide, by decide, by decide, by show 0 ≤ n.budget; omega, fun _ => by show 0 < n.budget; omega, fun _ => rfl, fun e => absurd e (by decide), fun _ => rfl, fun e => absurd e (by decide), fun e => absurd rfl e⟩
   · exact h.run a Ra ha
 · show (t, p) ∈ S.tasks ↔ _
   rw [h.tasks]
   constructor
   · rintro ⟨a, j, s, rfl, h1, h2, h3⟩
     exact ⟨a, j, s, rfl, hstp2 a j s h1, h2, h3⟩
   · rintro ⟨a, j, s, rfl, h1, h2, h3⟩
     rcases hstp a j s h1 with rfl | h1
     · exact absurd h2 (by decide)
     · exact ⟨a, j, s, rfl, h1, h2, h3⟩
 · show p ∈ S.queue ↔ _
   rw [h.queue]
   constructor
   · rintro ⟨a, j, s, rfl, h1, h2⟩
     exact ⟨a, j, s, rfl, hstp2 a j s h1, h2⟩
   · rintro ⟨a, j, s, rfl, h1, h2⟩
     rcases hstp a j s h1 with rfl | h1
     · exact absurd h2 (by decide)
     · exact ⟨a, j, s, rfl, h1, h2⟩
 · obtain ⟨hb, R1, hR1, hat⟩ := h.tms x hx
   refine ⟨hb, R1, ?_, hat⟩
   rw [hg, if_neg]
   · exact hR1
   · intro e
     rw [e, hnew] at hR1
     cases hR1
theorem Ok.submit {S : En} (h : Ok S) (h5 : S.runs.length ≤ 5) {fl : Flow} (hf : Fit fl) : Ok (S.submit fl) := by
 have h1 := h.begin h5 hf
 have hg : (S.begin fl).getR (S.lastRun + 1) = some (Rn.begun fl) := by rw [lU h, if_pos rfl]
 exact (h1.setT (p := ⟨S.lastRun + 1, -1, 0⟩) (kX S _) hg ⟨rfl, .inl ⟨rfl, rfl⟩⟩).wake _
theorem kW {α : Type} [DecidableEq α] : ∀ {l m : List α}, l.Nodup → (∀ x ∈ l, x ∈ m) → l.length ≤ m.length
 | [], _, _, _ => Nat.zero_le _
 | x :: l, m, hn, hs => by
  rw [List.nodup_cons] at hn
  have hx := hs x (.head _)
  have := kW (l := l) (m := m.erase x) hn.2 fun y hy => by
   refine (List.mem_erase_of_ne ?_).2 (hs y (.tail _ hy))
   rintro rfl
   exact hn.1 hy
  rw [List.length_erase_of_mem hx] at this
  have := List.length_pos_of_mem hx
  simp only [List.length_cons]
  omega
theorem flat_len {α β : Type} {f : α → List β} {n : Nat} : ∀ (l : List α), (∀ x, (f x).length = n) → (l.flatMap f).length = l.length * n
 | [], _ => by simp
 | x :: l, h => by
  rw [List.flatMap_cons, List.length_append, h, flat_len l h, List.length_cons, Nat.succ_mul, Nat.add_comm]
theorem yj {S : En} (h : Ok S) {id k : Nat} {s : Sp} (hs : S.stp id k = some s) : id ∈ S.runs.map (·.1) ∧ k < 12 := by
 obtain ⟨R, hR, h4⟩ := ib hs
 have hr := h.run id R hR
 have := (List.getElem?_eq_some_iff.1 h4).1
 have := hr.fl.head.2.2
 have := hr.len
 exact ⟨List.mem_map_of_mem (f := (·.1)) (iQ hR), by omega⟩
theorem Ok.queueLe {S : En} (h : Ok S) : S.queue.length ≤ 72 := by
 have := kW (m := (S.runs.map (·.1)).flatMap fun i => (List.range 12).map fun (k : Nat) => (⟨i, (k : Int), 0⟩ : Pl)) h.qnd fun p hp => by
  obtain ⟨a, j, s, rfl, h1, h2⟩ := (h.queue p).1 hp
  obtain ⟨h3, h4⟩ := yj h h1
  exact List.mem_flatMap.2 ⟨a, h3, List.mem_map.2 ⟨j, List.mem_range.2 h4, rfl⟩⟩
 rw [flat_len (n := 12) _ (fun _ => by simp)] at this
 have h6 := h.six
 rw [List.length_map] at this
 omega
theorem Ok.tmsLe {S : En} (h : Ok S) : S.tms.length ≤ 150 := by
 have := kW (m := (S.runs.map (·.1)).flatMap fun i => (⟨i, -1, 0⟩ : Pl) :: ((List.range 12).map fun (k : Nat) => (⟨i, (k : Int), 1⟩ : Pl)) ++ (List.range 12).map fun (k : Nat) => (⟨i, (k : Int), 2⟩ : Pl)) h.knd fun p hp => by
  obtain ⟨x, hx, rfl⟩ := List.mem_map.1 hp
  obtain ⟨_, R, hR, _, hat⟩ := h.tms x hx
  obtain ⟨⟨p1, p2, p3⟩, x2⟩ := x
  simp only at hR hat
  refine List.mem_flatMap.2 ⟨p1, List.mem_map_of_mem (f := (·.1)) (iQ hR), ?_⟩
  rcases hat with ⟨rfl, rfl⟩ | ⟨k, s, rfl, h1, h2⟩
  · simp
  · have h12 := (yj h (eY hR h1)).2
    rw [List.mem_append, List.mem_cons]
    rcases h2 with ⟨rfl, _⟩ | ⟨rfl, _⟩
    · exact .inl (.inr (List.mem_map.2 ⟨k, List.mem_range.2 h12, rfl⟩))
    · exact .inr (List.mem_map.2 ⟨k, List.mem_range.2 h12, rfl⟩)
 rw [flat_len (n := 25) _ (fun _ => by simp), List.length_map, List.length_map] at this
 have h6 := h.six
 omega
theorem iX {l l' : List Sp} {k : Nat} {x : Int} (h : l[k]? = l'[k]?) : bR l k x = bR l' k x := by
 unfold bR
 rw [h]
theorem xJ {ns : List Node} {k : Nat} {n : Node} (hn : ns[k]? = some n) (l : List Sp) : (n.after.any fun u => bR l u.toNat 6 || bR l u.toNat 7) = true ↔ ∃ u ∈ cO ns k, bR l u 6 = true ∨ bR l u 7 = true := by
 unfold cO
 rw [hn]
 simp only [List.any_eq_true, Bool.or_eq_true, List.mem_map]
 constructor
 · rintro ⟨u, h1, h2⟩
   exact ⟨u.toNat, ⟨u, h1, rfl⟩, h2⟩
 · rintro ⟨_, ⟨u, h1, rfl⟩, h2⟩
   exact ⟨u, h1, h2⟩
def ng (ns : List Node) (T : List Nat) : Prop := T.Nodup ∧ ∀ a i b, T = a ++ i :: b → ∀ u ∈ cO ns i, u ∈ a
theorem kS {ns : List Node} {l : List Sp} (hl : l.length = ns.length) : ∀ (m : Nat) (T : List Nat), T.length = m → ng ns T → ∀ (j : Nat) (s : Sp), l[j]? = some s → (j ∈ T ∧ s.state = 1 ∧ (∃ u ∈ cO ns j, bR (T.foldl (bS ns) l) u 6 = true ∨ bR (T.foldl (bS ns) l) u 7 = true) → (T.foldl (bS ns) l)[j]? = some { s with state := 7 }) ∧ (¬ (j ∈ T ∧ s.state = 1 ∧ (∃ u ∈ cO ns j, bR (T.foldl (bS ns) l) u 6 = true ∨ bR (T.foldl (bS ns) l) u 7 = true)) → (T.foldl (bS ns) l)[j]? = some s)
 | 0, T, hm, _, j, s, hs => by
  have : T = [] := List.eq_nil_of_length_eq_zero hm
  subst this
  exact ⟨fun h => by simp at h, fun _ => hs⟩
 | m + 1, T, hm, hb, j, s, hs => by
  obtain ⟨a, k, rfl⟩ : ∃ a k, T = a ++ [k] := ⟨T.dropLast, T.getLast (by rintro rfl; simp at hm), (List.dropLast_concat_getLast _).symm⟩
  have hk : k ∉ a := by
   have := hb.1
   rw [List.nodup_append] at this
   intro hk
   exact this.2.2 k hk k (by simp) rfl
  have hba : ng ns a := ⟨(List.nodup_append.1 hb.1).1, fun x i y e u hu => hb.2 x i (y ++ [k]) (by rw [e]; simp) u hu⟩
  have ih := kS hl m a (by simpa using hm) hba
  have hF : (a ++ [k]).foldl (bS ns) l = bS ns (a.foldl (bS ns) l) k := by rw [List.foldl_append]; rfl
  rw [hF]
  obtain ⟨A, hA⟩ : ∃ A, A = a.foldl (bS ns) l := ⟨_, rfl⟩
  rw [← hA] at ih ⊢
  have hne : ∀ i, i ≠ k → (bS ns A k)[i]? = A[i]? := fun i hi => by
   unfold bS
   split
   · split
     · rw [List.getElem?_set_ne (Ne.symm hi)]
     · rfl
   · rfl
  have hafk : ∀ u ∈ cO ns k, u ∈ a := hb.2 a k [] rfl
  have haf : ∀ i ∈ a ++ [k], ∀ u ∈ cO ns i, u ≠ k := fun i hi u hu => by
   rcases List.mem_append.1 hi with hi | hi
   · obtain ⟨x, y, e⟩ := List.append_of_mem hi
     have : u ∈ x := hba.2 x i y e u hu
     rintro rfl
     exact hk (by rw [e]; exact List.mem_append_left _ this)
   · rw [List.mem_singleton] at hi
     subst hi
     rintro rfl
     exact hk (hafk _ hu)
  by_cases hj : j = k
  · subst hj
    have hAj : A[j]? = some s := (ih j s hs).2 (fun h => hk h.1)
    obtain ⟨n, hn⟩ : ∃ n, ns[j]? = some n := ⟨ns[j]'(by rw [← hl]; exact (List.getElem?_eq_some_iff.1 hs).1), by simp⟩
    have hsame : ∀ u ∈ cO ns j, ∀ x, bR (bS ns A j) u x = bR A u x := fun u hu x => iX (hne u (haf j (by simp) u hu))
    have hex : (∃ u ∈ cO ns j, bR (bS ns A j) u 6 = true ∨ bR (bS ns A j) u 7 = true) ↔ ∃ u ∈ cO ns j, bR A u 6 = true ∨ bR A u 7 = true := by
     constructor
     · rintro ⟨u, hu, h⟩
       rw [hsame u hu, hsame u hu] at h
       exact ⟨u, hu, h⟩
     · rintro ⟨u, hu, h⟩
       refine ⟨u, hu, ?_⟩
       rw [hsame u hu, hsame u hu]
       exact h
    rw [hex]
    have hlt := (List.getElem?_eq_some_iff.1 hAj).1
    unfold bS
    rw [hAj, hn]
    simp only
    have ha := xJ hn A
    constructor
    · rintro ⟨_, h2, h3⟩
      rw [if_pos ⟨h2, ha.2 h3⟩, List.getElem?_set_self hlt]
    · intro h
      rw [if_neg fun h' => h ⟨by simp, h'.1, ha.1 h'.2⟩]
      exact hAj
  · have hin : j ∈ a ++ [k] ↔ j ∈ a := by simp [hj]
    rw [hin, hne j hj]
    by_cases hja : j ∈ a
    · have hsame : ∀ u ∈ cO ns j, ∀ x, bR (bS ns A k) u x = bR A u x := fun u hu x => iX (hne u (haf j (by simp [hja]) u hu))
      have hex : (∃ u ∈ cO ns j, bR (bS ns A k) u 6 = true ∨ bR (bS ns A k) u 7 = true) ↔ ∃ u ∈ cO ns j, bR A u 6 = true ∨ bR A u 7 = true := by
       constructor
       · rintro ⟨u, hu, h⟩
         rw [hsame u hu, hsame u hu] at h
         exact ⟨u, hu, h⟩
       · rintro ⟨u, hu, h⟩
         refine ⟨u, hu, ?_⟩
         rw [hsame u hu, hsame u hu]
         exact h
      rw [hex]
      exact ih j s hs
    · refine ⟨fun h => absurd h.1 hja, fun _ => (ih j s hs).2 fun h => hja h.1⟩
theorem yU {ns : List Node} {l : List Sp} (hl : l.length = ns.length) {T T' : List Nat} (hb : ng ns T) (hb' : ng ns T') (hT : ∀ j, j < ns.length → j ∈ T) (hT' : ∀ j, j < ns.length → j ∈ T') (hv : ∀ i, ∀ k ∈ cO ns i, k < ns.length) (hac : ∀ i, i < ns.length → Ac ns i) : T.foldl (bS ns) l = T'.foldl (bS ns) l := by
 have key : ∀ j, Ac ns j → j < ns.length → (T.foldl (bS ns) l)[j]? = (T'.foldl (bS ns) l)[j]? := by
  intro j h
  induction h with
  | mk i _ ih =>
   intro hi
   obtain ⟨s, hs⟩ : ∃ s, l[i]? = some s := ⟨l[i]'(by rw [hl]; exact hi), by simp⟩
   have a1 := kS hl T.length T rfl hb i s hs
   have a2 := kS hl T'.length T' rfl hb' i s hs
   have hex : (∃ u ∈ cO ns i, bR (T.foldl (bS ns) l) u 6 = true ∨ bR (T.foldl (bS ns) l) u 7 = true) ↔ ∃ u ∈ cO ns i, bR (T'.foldl (bS ns) l) u 6 = true ∨ bR (T'.foldl (bS ns) l) u 7 = true := by
    constructor
    · rintro ⟨u, hu, h⟩
      refine ⟨u, hu, ?_⟩
      rw [← iX (x := 6) (ih u hu (hv i u hu)), ← iX (x := 7) (ih u hu (hv i u hu))]
      exact h
    · rintro ⟨u, hu, h⟩
      refine ⟨u, hu, ?_⟩
      rw [iX (x := 6) (ih u hu (hv i u hu)), iX (x := 7) (ih u hu (hv i u hu))]
      exact h
   by_cases hc : s.state = 1 ∧ ∃ u ∈ cO ns i, bR (T'.foldl (bS ns) l) u 6 = true ∨ bR (T'.foldl (bS ns) l) u 7 = true
   · rw [a1.1 ⟨hT i hi, hc.1, hex.2 hc.2⟩, a2.1 ⟨hT' i hi, hc⟩]
   · rw [a1.2 fun h => hc ⟨h.2.1, hex.1 h.2.2⟩, a2.2 fun h => hc h.2]
 have hlen : ∀ (T : List Nat), (T.foldl (bS ns) l).length = ns.length := fun T => by rw [jU, hl]
 apply List.ext_getElem?
 intro j
 by_cases hj : j < ns.length
 · exact key j (hac j hj) hj
 · rw [List.getElem?_eq_none (by rw [hlen]; omega), List.getElem?_eq_none (by rw [hlen]; omega)]
noncomputable def m4 (ns : List Node) : List Nat := open Classical in if h : ∃ T, Ordering ns 0 T then h.choose else []
theorem m0 {f : Flow} (h : Fit f) : ∀ i, ∀ k ∈ cO f.nodes i, k < f.nodes.length := fun i k hk => by
 unfold cO at hk
 split at hk
 · rename_i n hn
   obtain ⟨x, hx, rfl⟩ := List.mem_map.1 hk
   have he := (h.nodes i n (bx hn) hn).2
   have : ∀ (l : List Int) (p : Int), -1 ≤ p → EdgesOk f.nodes.length p l → ∀ x ∈ l, 0 ≤ x ∧ x < f.nodes.length := by
    intro l
    induction l with
    | nil => intro _ _ _ x hx; simp at hx
    | cons y l ih =>
     intro p hp h x hx
     obtain ⟨h1, h2, h3⟩ := h
     rcases List.mem_cons.1 hx with rfl | hx
     · omega
     · exact ih y (by omega) h3 x hx
   have := this _ _ (by omega) he x hx
   omega
 · cases hk
theorem Ordering.full {ns : List Node} {T : List Nat} (h : Ordering ns 0 T) : (∀ j, j < ns.length → j ∈ T) := fun j hj => by
 refine Classical.byContradiction fun hn => ?_
 have := (h.bits j).2 ⟨hj, hn⟩
 simp at this
theorem Ordering.beh {f : Flow} (hf : Fit f) {left : Nat} {T : List Nat} (h : Ordering f.nodes left T) : ng f.nodes T := ⟨h.nodup, fun a i b e u hu => h.behind a i b e u hu (m0 hf i u hu)⟩
theorem Ordering.zero {f : Flow} (hf : Fit f) {left : Nat} {T : List Nat} (h : Ordering f.nodes left T) (hs : ∀ i, left.testBit i = true → ∃ k ∈ cO f.nodes i, left.testBit k = true) : left = 0 := by
 refine Nat.eq_of_testBit_eq fun i => ?_
 rw [Nat.zero_testBit]
 cases hb : left.testBit i with
 | false => rfl
 | true =>
  have := (h.stuck (m0 hf) hs i).1 hb
  exact absurd (hf.ac i this.1) this.2
theorem An {f : Flow} (hf : Fit f) {left : Nat} {T : List Nat} (h : Ordering f.nodes left T) (hs : ∀ i, left.testBit i = true → ∃ k ∈ cO f.nodes i, left.testBit k = true) (l : List Sp) (hl : l.length = f.nodes.length) : T.foldl (bS f.nodes) l = (m4 f.nodes).foldl (bS f.nodes) l := by
 have h0 := h.zero hf hs
 subst h0
 have hex : ∃ T, Ordering f.nodes 0 T := ⟨T, h⟩
 have ht : Ordering f.nodes 0 (m4 f.nodes) := by
  unfold m4
  rw [dif_pos hex]
  exact hex.choose_spec
 exact yU hl (h.beh hf) (ht.beh hf) h.full ht.full (m0 hf) hf.ac
end FK
