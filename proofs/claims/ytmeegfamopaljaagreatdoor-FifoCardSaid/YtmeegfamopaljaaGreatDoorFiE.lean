/- Plain laws for Fifo: one is handed out, and done. -/
import Derived.Test.YtmeegfamopaljaaGreatDoorFiD
import Derived.Test.YtmeegfamopaljaaGreatDoorFiA
namespace FK
theorem life0 {S : En} {p : Pl} {n : Node} (h : n.beat = 0) : S.life p n = S := by
  unfold En.life
  rw [if_neg (by omega)]
theorem settle_fifo {S : En} (h : Ok S) {id n : Nat} {R : Rn} (hR : S.getR id = some R) (hF : FRun n R) (_hrun : R.state = 1) : (S.settle id).queue = S.queue ∧ (∃ R', (S.settle id).getR id = some R' ∧ FRun n R') ∧ (∀ a, a ≠ id → (S.settle id).getR a = S.getR a) ∧ (S.settle id).lastRun = S.lastRun ∧ (S.settle id).runs.length = S.runs.length ∧ (S.settle id).sets = S.sets ∧ (S.settle id).now = S.now ∧ (S.settle id).lastToken = S.lastToken ∧ (S.settle id).ends ≤ S.ends + 1 := by
  unfold En.settle
  rw [hR]
  simp only
  by_cases hall : R.steps.all over = true
  · rw [if_pos hall]
    obtain ⟨st, hst⟩ : ∃ st, st = if (R.steps.all fun s => s.state == 5) = true then (2 : Int) else 3 := ⟨_, rfl⟩
    rw [← hst]
    have he := h.ended hR st
    obtain ⟨R', g1, g2, g3, g4, g5, g6⟩ := he.run
    have h5 : ∀ (j : Nat) (s : Sp), R.steps[j]? = some s → s.state = 5 := fun j s hs => by
      have ho := List.all_eq_true.1 hall s (List.mem_of_getElem? hs)
      have ho' : s.state = 5 ∨ s.state = 6 ∨ s.state = 7 := by
        unfold over at ho
        simp only [Bool.or_eq_true, beq_iff_eq] at ho
        omega
      by_cases h3 : j % 3 = 2
      · have := hF.b j s hs h3
        omega
      · have := hF.a j s hs h3
        omega
    have hsteps : R'.steps = R.steps := by
      apply List.ext_getElem?
      intro j
      by_cases hj : j < R.steps.length
      · have hs : R.steps[j]? = some R.steps[j] := List.getElem?_eq_getElem hj
        rw [g6 j _ hs, hs]
        obtain ⟨nd, _, hp⟩ := h.node hR hs
        have e5 := h5 j _ hs
        have e0 := hp.idle (by omega)
        congr 1
        unfold endS
        rw [if_pos (.inl e5)]
        have hz : ∀ u : Sp, u.token = 0 → ({ u with token := 0 } : Sp) = u := by
          rintro ⟨a, b, c⟩ hc
          simp only at hc
          subst hc
          rfl
        exact hz _ e0
      · rw [List.getElem?_eq_none (by omega), List.getElem?_eq_none (by omega)]
    refine ⟨?_, ⟨R', g1, ⟨g2.trans hF.fl, by rw [hsteps]; exact hF.len, by rw [hsteps]; exact hF.a, by rw [hsteps]; exact hF.b, by rw [hsteps]; exact hF.t, by rw [hsteps]; exact hF.w⟩⟩, he.others, he.lastRun, by have := congrArg List.length he.keys; simpa using this, he.sets, he.now, he.lastToken, by rw [he.ends]; exact Nat.le_refl _⟩
    rw [he.queue]
    refine List.filter_eq_self.2 fun p hp => ?_
    obtain ⟨a, j, s, rfl, h1, h2⟩ := (h.queue p).1 hp
    have : a ≠ id := by
      rintro rfl
      obtain ⟨R1, hR1, hs⟩ := stp_get h1
      rw [hR] at hR1
      injection hR1 with hR1
      subst hR1
      have := h5 j s hs
      omega
    simpa using this
  · rw [if_neg hall]
    exact ⟨rfl, ⟨R, hR, hF⟩, fun _ _ => rfl, rfl, rfl, rfl, rfl, rfl, Nat.le_succ _⟩
structure Stepped (S S1 S2 : En) (id k n : Nat) (q : List Pl) : Prop where
  one : Ok S1
  two : Ok S2
  task : (S1.tasks.find? (·.1 == S.lastToken + 1)).map (·.2) = some ⟨id, (k : Int), 0⟩
  queue : S2.queue = q ++ fnext id n k
  run : ∃ R', S2.getR id = some R' ∧ FRun n R'
  others : ∀ a, a ≠ id → S2.getR a = S.getR a
  lastRun : S2.lastRun = S.lastRun
  runs : S2.runs.length = S.runs.length
  sets : S2.sets = S.sets + 1
  now : S2.now = S.now
  lastToken : S2.lastToken = S.lastToken + 1
  ends : S2.ends ≤ S.ends + 1
  sets1 : S1.sets = S.sets + 1
  ends1 : S1.ends = S.ends
  token1 : S1.lastToken = S.lastToken + 1
  lastRun1 : S1.lastRun = S.lastRun
theorem fifo_step {S : En} (h : Ok S) {id k n : Nat} {q : List Pl} (hq : S.queue = ⟨id, (k : Int), 0⟩ :: q) {R : Rn} (hR : S.getR id = some R) (hF : FRun n R) : ∃ s nd, R.steps[k]? = some s ∧ R.fl.nodes[k]? = some nd ∧ nd.beat = 0 ∧ s.tries = 0 ∧ k < n ∧ Stepped S (S.hand ⟨id, (k : Int), 0⟩ q R s nd) ((S.hand ⟨id, (k : Int), 0⟩ q R s nd).complete (S.lastToken + 1)) id k n q := by
  obtain ⟨s, hs⟩ : ∃ s, R.steps[k]? = some s := by
    obtain ⟨a, j, u, e, h1, _⟩ := (h.queue ⟨id, (k : Int), 0⟩).1 (by rw [hq]; exact .head _)
    obtain ⟨rfl, rfl, _⟩ := pl_inj e
    obtain ⟨R1, hR1, h2⟩ := stp_get h1
    rw [hR] at hR1
    injection hR1 with hR1
    subst hR1
    exact ⟨u, h2⟩
  obtain ⟨nd, hn, hp⟩ := h.node hR hs
  obtain ⟨h2, hk⟩ := h.handT hq hR hs hn
  have hrun := hp.running (by omega)
  obtain ⟨hkn, hnd⟩ := fifo_at (n := n) (by rw [← hF.fl]; exact hn)
  have hbeat : nd.beat = 0 := by rw [hnd]; rfl
  have hs0 := hF.t k s hs h2
  subst hs0
  refine ⟨_, nd, hs, hn, hbeat, rfl, hkn, ?_⟩
  have hS1 := h.hand hq hR hs hn
  obtain ⟨S1, hS1e⟩ : ∃ S1, S1 = S.hand ⟨id, (k : Int), 0⟩ q R ⟨2, 0, 0⟩ nd := ⟨_, rfl⟩
  rw [← hS1e] at hS1 ⊢
  have hS1' : S1 = (S.handT id k q R ⟨2, 0, 0⟩).setT ⟨id, (k : Int), 1⟩ (S.later nd.close.toNat) := by rw [hS1e, hand_eq, life0 hbeat]
  have hR1 : S1.getR id = some (R.setS k ⟨3, 1, S.lastToken + 1⟩) := by
    rw [hS1']
    show (S.handT id k q R ⟨2, 0, 0⟩).getR id = _
    exact getR_setR hR
  have hO1 : ∀ a, a ≠ id → S1.getR a = S.getR a := fun a ha => by
    rw [hS1']
    show (S.setR id _).getR a = _
    exact getR_setR_ne ha
  have hl1 : S1.runs.length = S.runs.length := by
    rw [hS1']
    show (S.setR id _).runs.length = _
    unfold En.setR
    rw [List.length_map]
  have hs1 : (R.setS k ⟨3, 1, S.lastToken + 1⟩).steps[k]? = some ⟨3, 1, S.lastToken + 1⟩ := setS_at hs
  have htask : (S1.tasks.find? (·.1 == S.lastToken + 1)).map (·.2) = some ⟨id, (k : Int), 0⟩ := by
    have hm := hS1.task hR1 hs1 rfl
    cases hf : S1.tasks.find? (·.1 == S.lastToken + 1) with
    | none =>
      have := List.find?_eq_none.1 hf _ hm
      simp at this
    | some x =>
      have h3 := List.find?_some hf
      have h4 := List.mem_of_find?_eq_some hf
      have := nodup_eq hS1.tkeys h4 hm (by simpa using h3)
      rw [this]
      rfl
  have hcomp : S1.complete (S.lastToken + 1) = (((S1.leave id k).setR id ((R.setS k ⟨3, 1, S.lastToken + 1⟩).turned k ⟨3, 1, S.lastToken + 1⟩ 5)).wake id).settle id := complete_eq htask hR1 hs1
  obtain ⟨T, hT⟩ : ∃ T, T = (S1.leave id k).setR id ((R.setS k ⟨3, 1, S.lastToken + 1⟩).turned k ⟨3, 1, S.lastToken + 1⟩ 5) := ⟨_, rfl⟩
  have hTok : Ok T := by
    rw [hT]
    exact hS1.part hR1 hs1 (by exact hn) rfl (.inl rfl)
  have hTe : T = { S1.setR id ((R.setS k ⟨3, 1, S.lastToken + 1⟩).setS k ⟨5, 1, 0⟩) with tasks := S1.tasks.eraseP (·.1 == S.lastToken + 1), tms := (S1.tms.filter fun x => x.1 != ⟨id, (k : Int), 1⟩).filter fun x => x.1 != ⟨id, (k : Int), 2⟩ } := by
    rw [hT]
    exact part_eq hR1 hs1
  have hTR : T.getR id = some { R with steps := R.steps.set k ⟨5, 1, 0⟩ } := by
    rw [hTe]
    refine (getR_setR hR1).trans ?_
    rw [setS_setS]
    rfl
  have hTO : ∀ a, a ≠ id → T.getR a = S1.getR a := fun a ha => by
    rw [hTe]
    exact getR_setR_ne ha
  have hTl : T.runs.length = S1.runs.length := by
    rw [hTe]
    show (S1.setR id _).runs.length = _
    unfold En.setR
    rw [List.length_map]
  have hTw := FRun.wakes hF hs rfl hTR n (Nat.le_refl _)
  have hwake : T.wake id = T.wakeN id n := by
    unfold En.wake
    rw [hTR]
    simp only
    rw [hF.fl, fifo_len]
  rw [hcomp, ← hT, hwake]
  obtain ⟨w1, w2, w3, w4, w5, w6, w7, w8, w9⟩ := hTw
  have hWok : Ok (T.wakeN id n) := hTok.wakeN id n
  have hFW := hF.done hs rfl 1
  obtain ⟨c1, ⟨R', c2, c3⟩, c4, c5, c6, c7, c8, c9, c10⟩ := settle_fifo hWok w1 hFW hrun
  have q1 : S1.queue = q := by rw [hS1']; rfl
  have e1 : S1.sets = S.sets + 1 := by rw [hS1']; rfl
  have e2 : S1.ends = S.ends := by rw [hS1']; rfl
  have e3 : S1.lastToken = S.lastToken + 1 := by rw [hS1']; rfl
  have e4 : S1.lastRun = S.lastRun := by rw [hS1']; rfl
  have e5 : S1.now = S.now := by rw [hS1']; rfl
  have t1 : T.queue = S1.queue := by rw [hTe]; rfl
  have t2 : T.sets = S1.sets := by rw [hTe]; rfl
  have t3 : T.ends = S1.ends := by rw [hTe]; rfl
  have t4 : T.lastToken = S1.lastToken := by rw [hTe]; rfl
  have t5 : T.lastRun = S1.lastRun := by rw [hTe]; rfl
  have t6 : T.now = S1.now := by rw [hTe]; rfl
  refine ⟨hS1, hWok.settle id, htask, ?_, ⟨R', c2, c3⟩, fun a ha => ?_, by omega, by omega, by omega, by omega, by omega, by omega, e1, e2, e3, e4⟩
  · rw [c1, w2, t1, q1]
    rfl
  · rw [c4 a ha, w3 a ha, hTO a ha, hO1 a ha]
end FK

namespace FK
def flow2 : Flow := ⟨100, [⟨2, 9, 0, 3, 9, 0, []⟩, ⟨1, 9, 0, 1, 1, 0, [0]⟩]⟩
def rn2 (st : Int) (a b : Sp) (e : Nat) : Rn := ⟨flow2, st, [a, b], e⟩
def o1 : En := ⟨0, 0, 1, 0, 0, [(1, rn2 1 ⟨2, 0, 0⟩ ⟨1, 0, 0⟩ 0)], [], [⟨1, 0, 0⟩], [(⟨1, -1, 0⟩, 100)], 1⟩
def o2 : En := ⟨0, 0, 1, 1, 0, [(1, rn2 1 ⟨3, 1, 1⟩ ⟨1, 0, 0⟩ 0)], [(1, ⟨1, 0, 0⟩)], [], [(⟨1, -1, 0⟩, 100), (⟨1, 0, 1⟩, 9)], 2⟩
def o3 : En := ⟨0, 0, 1, 1, 0, [(1, rn2 1 ⟨4, 1, 0⟩ ⟨1, 0, 0⟩ 0)], [], [], [(⟨1, -1, 0⟩, 100), (⟨1, 0, 1⟩, 3)], 3⟩
def o4 : En := ⟨3, 0, 1, 1, 0, [(1, rn2 1 ⟨2, 1, 0⟩ ⟨1, 0, 0⟩ 0)], [], [⟨1, 0, 0⟩], [(⟨1, -1, 0⟩, 100)], 3⟩
def o5 : En := ⟨3, 0, 1, 2, 0, [(1, rn2 1 ⟨3, 2, 2⟩ ⟨1, 0, 0⟩ 0)], [(2, ⟨1, 0, 0⟩)], [], [(⟨1, -1, 0⟩, 100), (⟨1, 0, 1⟩, 12)], 4⟩
def o6 : En := ⟨3, 0, 1, 2, 0, [(1, rn2 1 ⟨5, 2, 0⟩ ⟨2, 0, 0⟩ 0)], [], [⟨1, 1, 0⟩], [(⟨1, -1, 0⟩, 100)], 4⟩
def o7 : En := ⟨3, 0, 1, 3, 0, [(1, rn2 1 ⟨5, 2, 0⟩ ⟨3, 1, 3⟩ 0)], [(3, ⟨1, 1, 0⟩)], [], [(⟨1, -1, 0⟩, 100), (⟨1, 1, 1⟩, 12)], 5⟩
def o8 : En := ⟨3, 0, 1, 3, 1, [(1, rn2 2 ⟨5, 2, 0⟩ ⟨5, 1, 0⟩ 1)], [], [], [], 5⟩
theorem flow2_fit : Fit flow2 := by
  refine ⟨⟨by decide, by decide, by decide⟩, fun j nd hj hn => ?_, fun i hi => ?_⟩
  · have : j = 0 ∨ j = 1 := by have : j < 2 := hj; omega
    rcases this with rfl | rfl
    · have : (⟨2, 9, 0, 3, 9, 0, []⟩ : Node) = nd := by simpa [flow2] using hn
      subst this
      exact ⟨by unfold NodeOk span; simp, trivial⟩
    · have : (⟨1, 9, 0, 1, 1, 0, [0]⟩ : Node) = nd := by simpa [flow2] using hn
      subst this
      exact ⟨by unfold NodeOk span; simp, by decide, by decide, trivial⟩
  · have h0 : Ac flow2.nodes 0 := .mk 0 fun k hk => by simp [aft, flow2] at hk
    have : i = 0 ∨ i = 1 := by have : i < 2 := hi; omega
    rcases this with rfl | rfl
    · exact h0
    · refine .mk 1 fun k hk => ?_
      have : k = 0 := by simpa [aft, flow2] using hk
      subst this
      exact h0
theorem o1_eq : En.fresh.submit flow2 = o1 := rfl
theorem o2_eq : o1.hand ⟨1, ((0 : Nat) : Int), 0⟩ [] (rn2 1 ⟨2, 0, 0⟩ ⟨1, 0, 0⟩ 0) ⟨2, 0, 0⟩ ⟨2, 9, 0, 3, 9, 0, []⟩ = o2 := rfl
theorem o3_eq : o2.fail 1 = o3 := by
  have hR : o2.getR 1 = some (rn2 1 ⟨3, 1, 1⟩ ⟨1, 0, 0⟩ 0) := rfl
  have hs : (rn2 1 ⟨3, 1, 1⟩ ⟨1, 0, 0⟩ 0).steps[0]? = some ⟨3, 1, 1⟩ := rfl
  have hn : (rn2 1 ⟨3, 1, 1⟩ ⟨1, 0, 0⟩ 0).fl.nodes[0]? = some ⟨2, 9, 0, 3, 9, 0, []⟩ := rfl
  rw [fail_eq (id := 1) (k := 0) (w := 0) rfl, failed_eq hR hs hn, if_pos (by decide)]
  rfl
theorem o4_ticks : Ticks 3 o3 o4 := by
  refine .step (x := (⟨1, 0, 1⟩, 3)) (tms' := [(⟨1, -1, 0⟩, 100)]) ⟨[(⟨1, -1, 0⟩, 100)], [], rfl, rfl, by intro y hy; rw [List.mem_singleton] at hy; subst hy; decide, by intro y hy; cases hy⟩ (Nat.le_refl _) ?_
  have h1 : ({ o3 with now := 3, tms := [(⟨1, -1, 0⟩, 100)] } : En).due ⟨1, 0, 1⟩ = { o4 with now := 3 } := rfl
  rw [show ({ o3 with now := ((⟨1, 0, 1⟩, 3) : KD).2, tms := [(⟨1, -1, 0⟩, 100)] } : En).due ((⟨1, 0, 1⟩, 3) : KD).1 = { o4 with now := 3 } from h1]
  exact .done (S := { o4 with now := 3 }) (by intro y hy; have hy' : y ∈ [((⟨1, -1, 0⟩ : Pl), 100)] := hy; rw [List.mem_singleton] at hy'; subst hy'; decide)
theorem o4_eq {U : En} (h : Ticks 3 o3 U) : U = o4 := h.unique o4_ticks
theorem o5_eq : o4.hand ⟨1, ((0 : Nat) : Int), 0⟩ [] (rn2 1 ⟨2, 1, 0⟩ ⟨1, 0, 0⟩ 0) ⟨2, 1, 0⟩ ⟨2, 9, 0, 3, 9, 0, []⟩ = o5 := rfl
theorem o6_eq : o5.complete 2 = o6 := rfl
theorem o7_eq : o6.hand ⟨1, ((1 : Nat) : Int), 0⟩ [] (rn2 1 ⟨5, 2, 0⟩ ⟨2, 0, 0⟩ 0) ⟨2, 0, 0⟩ ⟨1, 9, 0, 1, 1, 0, [0]⟩ = o7 := rfl
theorem o8_eq : o7.complete 3 = o8 := rfl
theorem o1_ok : Ok o1 := o1_eq ▸ Ok.fresh.submit (by decide) flow2_fit
theorem o2_ok : Ok o2 := o2_eq ▸ o1_ok.hand rfl rfl rfl rfl
theorem o3_ok : Ok o3 := o3_eq ▸ o2_ok.fail 1
theorem o4_ok : Ok o4 := o4_ticks.ok (by decide) o3_ok
theorem o5_ok : Ok o5 := o5_eq ▸ o4_ok.hand rfl rfl rfl rfl
theorem o6_ok : Ok o6 := o6_eq ▸ o5_ok.complete 2
theorem o7_ok : Ok o7 := o7_eq ▸ o6_ok.hand rfl rfl rfl rfl
theorem o8_ok : Ok o8 := o8_eq ▸ o7_ok.complete 3
theorem cut0 {S0 : En} (h : Cut En.fresh S0) : S0 = En.fresh := by
  unfold Cut at h
  rw [if_neg (by decide)] at h
  exact h
theorem encN_ltp {n k : Nat} : n < 128 ^ (k + 1) → (encN n).length ≤ k + 1 := by
  induction k generalizing n with
  | zero =>
    intro h
    rw [encN, if_pos (by simpa using h)]
    simp
  | succ k ih =>
    intro h
    rw [encN]
    split
    · simp
    · have := ih (n := n / 128) (by rw [Nat.div_lt_iff_lt_mul (by omega)]; rw [Nat.pow_succ] at h; exact h)
      simp only [List.length_cons]
      omega
theorem encN_spanp {x : Int} (h1 : x ≤ 1048576) : (encN x.toNat).length ≤ 3 := encN_ltp (k := 2) (by omega)
theorem flat_lep {α β : Type} {f : α → List β} {n : Nat} : ∀ {l : List α}, (∀ x ∈ l, (f x).length ≤ n) → (l.flatMap f).length ≤ l.length * n
  | [], _ => by simp
  | x :: l, h => by
    have h1 := h x (.head _)
    have h2 := flat_lep (l := l) fun y hy => h y (.tail _ hy)
    rw [List.flatMap_cons, List.length_append, List.length_cons, Nat.succ_mul]
    omega
theorem edges_lenp {len : Nat} : ∀ (l : List Int) (p : Int), EdgesOk len p l → (l.length : Int) ≤ max 0 ((len : Int) - 1 - p)
  | [], _, _ => by simp; omega
  | k :: r, p, h => by
    obtain ⟨h1, h2, h3⟩ := h
    have := edges_lenp r k h3
    simp only [List.length_cons]
    omega
theorem Fit.encLen {f : Flow} (h : Fit f) : (encFlow f).length ≤ 1000 := by
  have h12 := h.head.2.2
  have hd := encN_spanp h.head.1.2
  have hn : (encN f.nodes.length).length ≤ 3 := encN_ltp (k := 2) (by omega)
  have hnodes : (f.nodes.flatMap encNode).length ≤ f.nodes.length * 60 := flat_lep fun nd hnd => by
    obtain ⟨i, hi⟩ := List.getElem?_of_mem hnd
    obtain ⟨⟨a1, a2, ⟨b1, b2⟩, ⟨c1, c2⟩, ⟨d1, d2⟩, ⟨e1, e2⟩, g1, g2⟩, he⟩ := h.nodes i nd (lt_of_some hi) hi
    have hl := edges_lenp _ _ he
    have k1 := encN_spanp (x := nd.budget) (by omega)
    have k2 := encN_spanp (x := nd.close) (by omega)
    have k3 := encN_spanp (x := nd.beat) (by omega)
    have k4 := encN_spanp (x := nd.base) (by omega)
    have k5 := encN_spanp (x := nd.cap) (by omega)
    have k6 := encN_spanp (x := nd.jitter) (by omega)
    have k7 : (encN nd.after.length).length ≤ 3 := encN_ltp (k := 2) (by omega)
    have k8 : (nd.after.flatMap fun k => encN k.toNat).length ≤ nd.after.length * 3 := flat_lep fun x hx => by
      have hin : ∀ (l : List Int) (p : Int), EdgesOk f.nodes.length p l → ∀ y ∈ l, y < f.nodes.length := by
        intro l
        induction l with
        | nil => intro _ _ y hy; simp at hy
        | cons z l ih =>
          intro p hp y hy
          rcases List.mem_cons.1 hy with rfl | hy
          · exact hp.2.1
          · exact ih z hp.2.2 y hy
      exact encN_spanp (by have := hin _ _ he x hx; omega)
    unfold encNode
    simp only [List.length_append]
    omega
  unfold encFlow
  simp only [List.length_append]
  omega
end FK

namespace FK
theorem EdgesOk.more {len len' : Nat} (h : len ≤ len') : ∀ {p : Int} {l : List Int}, EdgesOk len p l → EdgesOk len' p l
  | _, [], _ => trivial
  | _, _ :: _, ⟨h1, h2, h3⟩ => ⟨h1, by omega, EdgesOk.more h h3⟩
theorem EdgesOk.snoc {len : Nat} : ∀ {p : Int} {l : List Int} {k : Int}, EdgesOk len p l → (∀ x ∈ l, x < k) → p < k → k < len → EdgesOk len p (l ++ [k])
  | _, [], _, _, _, h2, h3 => ⟨h2, h3, trivial⟩
  | _, x :: _l, _, ⟨h1, h2, h3⟩, h4, _, h6 => ⟨h1, h2, EdgesOk.snoc h3 (fun y hy => h4 y (List.mem_cons_of_mem _ hy)) (h4 x (List.mem_cons_self ..)) h6⟩
structure Reach (ns : List Node) (a : Nat) (R : Nat → Bool) : Prop where
  at_ : R a = true
  low : ∀ i, i < a → R i = false
  dom : ∀ i, R i = true → ns[i]? ≠ none
  step : ∀ i nd, a < i → ns[i]? = some nd → (R i = true ↔ ∃ k ∈ nd.after, R k.toNat = true)
section
variable {ns : List Node} {a z : Nat} {nd : Node} {R : Nat → Bool}
end
end FK

namespace FK
structure FI (r B : Nat) (S : En) : Prop where
  ok : Ok S
  runs : ∀ id R, S.getR id = some R → id = 1 ∨ ∃ n, FRun n R
  q1 : ∀ p ∈ S.queue, p.run ≠ 1
  lastRun : S.lastRun = 1 + r
  len : S.runs.length = 1 + r
  sets : S.sets ≤ B
  tok : S.lastToken ≤ B
  ends : S.ends ≤ B
theorem FI.start : FI 0 10 o8 := by
  refine ⟨o8_ok, fun id R h => ?_, fun p hp => (by cases hp), rfl, rfl, by decide, by decide, by decide⟩
  have := getR_mem' h
  have h1 : (id, R) ∈ [(1, rn2 2 ⟨5, 2, 0⟩ ⟨5, 1, 0⟩ 1)] := this
  rw [List.mem_singleton] at h1
  injection h1 with h1
  exact .inl h1
theorem FI.mono {r B B' : Nat} {S : En} (h : FI r B S) (hB : B ≤ B') : FI r B' S := ⟨h.ok, h.runs, h.q1, h.lastRun, h.len, Nat.le_trans h.sets hB, Nat.le_trans h.tok hB, Nat.le_trans h.ends hB⟩
theorem FI.roomy {r B : Nat} {S : En} (h : FI r B S) (hr : r < 5) : S.roomy = true := by
  unfold En.roomy
  rw [h.len]
  have : decide (1 + r < 6) = true := by simp; omega
  rw [this, Bool.or_true]
theorem FI.cut {r B : Nat} {S S0 : En} (h : FI r B S) (hr : r < 5) (hc : Cut S S0) : S0 = S := by
  unfold Cut at hc
  rw [if_neg (by rw [h.len]; omega)] at hc
  exact hc
theorem FI.submit {r B : Nat} {S : En} (h : FI r B S) (hr : r < 5) {n : Nat} (h1 : 1 ≤ n) (h2 : n ≤ 12) : FI (r + 1) (B + 1) (S.submit (fifoFlow n)) ∧ (S.submit (fifoFlow n)).queue = S.queue ++ fready (S.lastRun + 1) n := by
  have hf := fifo_fit h1 h2
  have hok := h.ok.submit (by rw [h.len]; omega) hf
  obtain ⟨T, hT⟩ : ∃ T, T = (S.begin (fifoFlow n)).setT ⟨S.lastRun + 1, -1, 0⟩ (S.later (fifoFlow n).deadline.toNat) := ⟨_, rfl⟩
  have hget : ∀ a, T.getR a = if a = S.lastRun + 1 then some (Rn.begun (fifoFlow n)) else S.getR a := fun a => by
    rw [hT]
    exact begin_get h.ok (fifoFlow n) a
  have hR : T.getR (S.lastRun + 1) = some (Rn.begun (fifoFlow n)) := by rw [hget, if_pos rfl]
  have hs : S.submit (fifoFlow n) = T.wakeN (S.lastRun + 1) n := by
    unfold En.submit
    rw [← hT]
    unfold En.wake
    rw [hR]
    show T.wakeN _ (fifoFlow n).nodes.length = _
    rw [fifo_len]
  obtain ⟨w1, w2, w3, w4, w5, w6, w7, w8, w9⟩ := fifo_wakes hR n (Nat.le_refl _)
  have hq : T.queue = S.queue := by rw [hT]; rfl
  have hsub : (S.submit (fifoFlow n)).queue = S.queue ++ fready (S.lastRun + 1) n := by rw [hs, w2, hq]
  have t1 : T.lastRun = S.lastRun + 1 := by rw [hT]; rfl
  have t2 : T.runs.length = S.runs.length + 1 := by
    rw [hT]
    show (S.runs ++ [_]).length = _
    simp
  have t3 : T.sets = S.sets + 1 := by rw [hT]; rfl
  have t4 : T.lastToken = S.lastToken := by rw [hT]; rfl
  have t5 : T.ends = S.ends := by rw [hT]; rfl
  have e1 := h.lastRun
  have e2 := h.len
  have e3 := h.sets
  have e4 := h.tok
  have e5 := h.ends
  refine ⟨⟨hok, fun id R hid => ?_, fun p hp => ?_, ?_, ?_, ?_, ?_, ?_⟩, hsub⟩
  · rw [hs] at hid
    by_cases ha : id = S.lastRun + 1
    · subst ha
      rw [w1] at hid
      injection hid with hid
      subst hid
      exact .inr ⟨n, FRun.begun⟩
    · rw [w3 id ha, hget, if_neg ha] at hid
      exact h.runs id R hid
  · rw [hsub, List.mem_append] at hp
    rcases hp with hp | hp
    · exact h.q1 p hp
    · unfold fready at hp
      obtain ⟨j, _, rfl⟩ := List.mem_map.1 hp
      show S.lastRun + 1 ≠ 1
      omega
  · rw [hs, w4]; omega
  · rw [hs, w5]; omega
  · rw [hs, w6]; omega
  · rw [hs, w8]; omega
  · rw [hs, w9]; omega
theorem FI.head {r B : Nat} {S : En} (h : FI r B S) {p : Pl} (hp : p ∈ S.queue) : ∃ (id k n : Nat) (R : Rn), p = ⟨id, (k : Int), 0⟩ ∧ S.getR id = some R ∧ FRun n R ∧ R.steps[k]? = some ⟨2, 0, 0⟩ := by
  obtain ⟨id, k, s, rfl, h1, h2⟩ := (h.ok.queue p).1 hp
  obtain ⟨R, hR, hs⟩ := stp_get h1
  have hne := h.q1 _ hp
  rcases h.runs id R hR with h3 | ⟨n, hF⟩
  · exact absurd h3 hne
  · have := hF.t k s hs h2
    subst this
    exact ⟨id, k, n, R, rfl, hR, hF, hs⟩
theorem FI.try {r B : Nat} {S : En} (h : FI r B S) {p : Pl} (hp : p ∈ S.queue) : S.tryOf p = 1 := by
  obtain ⟨id, k, n, R, rfl, hR, hF, hs⟩ := h.head hp
  unfold En.tryOf
  simp only [hR, Int.toNat_natCast, hs]
  rfl
theorem FI.step {r B : Nat} {S : En} (h : FI r B S) {id k n : Nat} {q : List Pl} (hq : S.queue = ⟨id, (k : Int), 0⟩ :: q) {R : Rn} (hR : S.getR id = some R) (hF : FRun n R) : ∃ nd, R.steps[k]? = some ⟨2, 0, 0⟩ ∧ R.fl.nodes[k]? = some nd ∧ k < n ∧ Stepped S (S.hand ⟨id, (k : Int), 0⟩ q R ⟨2, 0, 0⟩ nd) ((S.hand ⟨id, (k : Int), 0⟩ q R ⟨2, 0, 0⟩ nd).complete (S.lastToken + 1)) id k n q ∧ FI r (B + 1) ((S.hand ⟨id, (k : Int), 0⟩ q R ⟨2, 0, 0⟩ nd).complete (S.lastToken + 1)) := by
  obtain ⟨s, nd, hs, hn, _, _, hk, hst⟩ := fifo_step h.ok hq hR hF
  have hs2 : s = ⟨2, 0, 0⟩ := by
    obtain ⟨id', k', n', R', e, hR', hF', hs'⟩ := h.head (p := ⟨id, (k : Int), 0⟩) (by rw [hq]; exact .head _)
    obtain ⟨rfl, rfl, _⟩ := pl_inj e
    rw [hR] at hR'
    injection hR' with hR'
    subst hR'
    rw [hs] at hs'
    injection hs'
  subst hs2
  refine ⟨nd, hs, hn, hk, hst, ?_⟩
  have e3 := h.sets
  have e4 := h.tok
  have e5 := h.ends
  refine ⟨hst.two, fun a Ra ha => ?_, fun p hp => ?_, by rw [hst.lastRun, h.lastRun], by rw [hst.runs, h.len], by rw [hst.sets]; omega, by rw [hst.lastToken]; omega, by have := hst.ends; omega⟩
  · by_cases hai : a = id
    · subst hai
      obtain ⟨R', h1, h2⟩ := hst.run
      rw [h1] at ha
      injection ha with ha
      subst ha
      exact .inr ⟨n, h2⟩
    · rw [hst.others a hai] at ha
      exact h.runs a Ra ha
  · have hid : id ≠ 1 := h.q1 ⟨id, (k : Int), 0⟩ (by rw [hq]; exact .head _)
    rw [hst.queue, List.mem_append] at hp
    rcases hp with hp | hp
    · exact h.q1 p (by rw [hq]; exact .tail _ hp)
    · unfold fnext at hp
      split at hp
      · rw [List.mem_singleton] at hp
        subst hp
        exact hid
      · cases hp
end FK
