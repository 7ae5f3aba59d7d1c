/- The engine in plain data: behind so many ticks a run has ended. -/
import Derived.Test.YtmeegfamopaljaaGreatDoorEdE
import Derived.Test.YtmeegfamopaljaaGreatDoorEdD
namespace FK
def l7 (n : Node) (g : Int) : Int := n.close + n.cap + n.jitter + g
structure Cred (id : Nat) (g : Int) (τ : Nat) (S : En) (R : Rn) (d : Int) (w : Nat → Int) : Prop where
 pos : ∀ k, 0 ≤ w k
 one : ∀ (k : Nat) (s : Sp) (n : Node), R.steps[k]? = some s → R.fl.nodes[k]? = some n → s.state = 1 → n.budget * l7 n g ≤ w k
 two : ∀ (k : Nat) (s : Sp) (n : Node), R.steps[k]? = some s → R.fl.nodes[k]? = some n → s.state = 2 → (n.budget - s.tries) * l7 n g + d ≤ w k + g
 three : ∀ (k : Nat) (s : Sp) (n : Node), R.steps[k]? = some s → R.fl.nodes[k]? = some n → s.state = 3 → ∃ a : Nat, ((⟨id, (k : Int), 1⟩ : Pl), a) ∈ S.tms ∧ (n.budget - s.tries) * l7 n g + n.cap + n.jitter + ((a : Int) - τ) ≤ w k
 four : ∀ (k : Nat) (s : Sp) (n : Node), R.steps[k]? = some s → R.fl.nodes[k]? = some n → s.state = 4 → ∃ a : Nat, ((⟨id, (k : Int), 1⟩ : Pl), a) ∈ S.tms ∧ (n.budget - s.tries) * l7 n g + ((a : Int) - τ) ≤ w k
def kh (w : Nat → Int) : Nat → Int
 | 0 => 0
 | n + 1 => kh w n + w n
theorem mc {w : Nat → Int} (h : ∀ k, 0 ≤ w k) : ∀ n, 0 ≤ kh w n
 | 0 => Int.le_refl _
 | n + 1 => by
  have := mc h n
  have := h n
  unfold kh
  omega
theorem uZ {w : Nat → Int} (h : ∀ k, 0 ≤ w k) {k : Nat} : ∀ {n}, k < n → w k ≤ kh w n
 | 0, hk => by omega
 | n + 1, hk => by
  unfold kh
  by_cases e : k = n
  · subst e
    have := mc h k
    omega
  · have := uZ h (k := k) (n := n) (by omega)
    have := h n
    omega
theorem uY {w v : Nat → Int} (h : ∀ k, v k ≤ w k) : ∀ n, kh v n ≤ kh w n
 | 0 => Int.le_refl _
 | n + 1 => by
  have := uY h n
  have := h n
  unfold kh
  omega
theorem uX {w v : Nat → Int} (h : ∀ k, v k ≤ w k) {k : Nat} (hk : v k < w k) : ∀ {n}, k < n → kh v n + 1 ≤ kh w n
 | 0, hn => by omega
 | n + 1, hn => by
  unfold kh
  by_cases e : k = n
  · subst e
    have := uY h k
    omega
  · have := uX h hk (n := n) (by omega)
    have := h n
    omega
section
variable {id k : Nat} {g : Int} {τ : Nat} {F : Flow} {S U : En} {R R' : Rn} {new : List KD} {d : Int} {w : Nat → Int}
theorem iU {id k : Nat} {w : Int} : (⟨id, -1, 0⟩ : Pl) ≠ ⟨id, (k : Int), w⟩ := by
 intro h
 injection h with _ h _
 omega
theorem Cred.mv (h : Cred id g τ S R d w) (hok : Ok S) (hR : S.getR id = some R) (hm : Mv id k S U R R' new) (hrun : R'.state = 1) (hd : d ≤ g)
 (hk : ∀ (s' : Sp) (n : Node), R'.steps[k]? = some s' → R.fl.nodes[k]? = some n →
  (s'.state = 1 → n.budget * l7 n g ≤ w k) ∧ (s'.state = 2 → (n.budget - s'.tries) * l7 n g + d ≤ w k + g) ∧
  (s'.state = 3 → ∃ a : Nat, ((⟨id, (k : Int), 1⟩ : Pl), a) ∈ U.tms ∧ (n.budget - s'.tries) * l7 n g + n.cap + n.jitter + ((a : Int) - τ) ≤ w k) ∧
  (s'.state = 4 → ∃ a : Nat, ((⟨id, (k : Int), 1⟩ : Pl), a) ∈ U.tms ∧ (n.budget - s'.tries) * l7 n g + ((a : Int) - τ) ≤ w k)) : Cred id g τ U R' d w := by
 have hkeep : ∀ {j : Nat} {a : Nat}, j ≠ k → ((⟨id, (j : Int), 1⟩ : Pl), a) ∈ S.tms → ((⟨id, (j : Int), 1⟩ : Pl), a) ∈ U.tms := fun {j a} hj hx => hm.keep hrun _ hx fun v e => hj (eP e).2.1
 refine ⟨h.pos, fun j s' n hs' hn e => ?_, fun j s' n hs' hn e => ?_, fun j s' n hs' hn e => ?_, fun j s' n hs' hn e => ?_⟩ <;> rw [hm.fl] at hn
 · by_cases hj : j = k
   · subst hj; exact (hk s' n hs' hn).1 e
   · obtain ⟨s, hs, hx⟩ := hm.back hj hs'
     exact h.one j s n hs hn (hx.w1 e)
 · by_cases hj : j = k
   · subst hj; exact (hk s' n hs' hn).2.1 e
   · obtain ⟨s, hs, hx⟩ := hm.back hj hs'
     rw [hx.tries]
     rcases hx.w2 e with e | e
     · exact h.two j s n hs hn e
     · have h1 := h.one j s n hs hn e
       have h0 := ((hok.run id R hR).sp j s n hs hn).wait e
       rw [h0, Int.sub_zero]
       omega
 · by_cases hj : j = k
   · subst hj; exact (hk s' n hs' hn).2.2.1 e
   · obtain ⟨s, hs, hx⟩ := hm.back hj hs'
     obtain rfl := (hx.w3 e).symm
     obtain ⟨a, h1, h2⟩ := h.three j s n hs hn e
     exact ⟨a, hkeep hj h1, h2⟩
 · by_cases hj : j = k
   · subst hj; exact (hk s' n hs' hn).2.2.2 e
   · obtain ⟨s, hs, hx⟩ := hm.back hj hs'
     rw [hx.tries]
     obtain ⟨a, h1, h2⟩ := h.four j s n hs hn (hx.w4 e)
     exact ⟨a, hkeep hj h1, h2⟩
end
theorem nw (S : En) (n : Nat) : S.later n ≤ S.now + n := by unfold En.later; omega
theorem nO (n : Node) (h : cf n) (k : Int) : 1 ≤ eM n.base n.cap n.jitter k 0 ∧ eM n.base n.cap n.jitter k 0 ≤ n.cap := by
 obtain ⟨_, _, _, _, ⟨h1, _⟩, ⟨h2, _⟩, ⟨h3, _⟩⟩ := h
 refine ⟨oy _ _ _ _ h1 h2, ?_⟩
 unfold eM
 have h0 : (0 : Int) % (n.jitter + 1) = 0 := Int.zero_emod _
 rw [h0]
 split
 · omega
 · split <;> omega
theorem Lone.active {id : Nat} {F : Flow} {S : En} {R : Rn} (h : Lone id F S R) (hrun : R.state = 1) : ∃ (k : Nat) (s : Sp) (n : Node), R.steps[k]? = some s ∧ R.fl.nodes[k]? = some n ∧ (s.state = 2 ∨ s.state = 3 ∨ s.state = 4) := by
 have hr := h.ok.run id R h.get
 have key : ∀ k, Ac R.fl.nodes k → ∀ s, R.steps[k]? = some s → over s = false → ∃ (k : Nat) (s : Sp) (n : Node), R.steps[k]? = some s ∧ R.fl.nodes[k]? = some n ∧ (s.state = 2 ∨ s.state = 3 ∨ s.state = 4) := by
  intro k hk
  induction hk with
  | mk k hac ih =>
   intro s hs ho
   obtain ⟨n, hn, hp⟩ := h.ok.node h.get hs
   by_cases h1 : s.state = 1
   · by_cases hall : ∀ u ∈ cO R.fl.nodes k, ∀ t, R.steps[u]? = some t → over t = true
     · exfalso
       refine h.hon.h0.wt hrun k s hs h1 fun u hu => ?_
       have hlt : u < R.steps.length := by rw [hr.len]; exact m0 hr.fl k u hu
       have ht : R.steps[u]? = some (R.steps[u]) := List.getElem?_eq_getElem hlt
       have ho := hall u hu _ ht
       obtain ⟨h6, h7⟩ := h.hon.h0.sk hrun k s hs h1 u hu
       rw [cR ht] at h6 h7
       rw [over_iff] at ho
       rw [cR ht]
       have h6 : ¬ (R.steps[u]).state = 6 := by simpa using h6
       have h7 : ¬ (R.steps[u]).state = 7 := by simpa using h7
       have : (R.steps[u]).state = 5 := by omega
       simpa using this
     · have : ∃ u ∈ cO R.fl.nodes k, ∃ t, R.steps[u]? = some t ∧ over t = false := Classical.byContradiction fun hn => hall fun u hu t ht => by
        cases ho : over t with
        | true => rfl
        | false => exact absurd ⟨u, hu, t, ht, ho⟩ hn
       obtain ⟨u, hu, t, ht, ho⟩ := this
       exact ih u hu t ht ho
   · have h2 := hp.st1
     have h3 := hp.st7
     rw [kV] at ho
     exact ⟨k, s, n, hs, hn, by omega⟩
 obtain ⟨k, s, hs, ho⟩ := h.hon.go hrun
 exact key k (hr.fl.ac k (by rw [← hr.len]; exact (List.getElem?_eq_some_iff.1 hs).1)) s hs ho
theorem B3 {b t c : Int} (h : t < b) (hc : 0 ≤ c) : c ≤ (b - t) * c := by
 have : 1 * c ≤ (b - t) * c := Int.mul_le_mul_of_nonneg_right (by omega) hc
 omega
theorem yu {b t c : Int} (h : t ≤ b) (hc : 0 ≤ c) : 0 ≤ (b - t) * c := Int.mul_nonneg (by omega) hc
theorem qa {n : Node} (h : cf n) {g : Int} (_hg : 0 ≤ g) : g + 1 ≤ l7 n g := by
 obtain ⟨_, _, ⟨h1, _⟩, _, ⟨h2, _⟩, ⟨h3, _⟩, ⟨h4, _⟩⟩ := h
 unfold l7
 omega
def act (R : Rn) (k : Nat) : Bool := match R.steps[k]? with | some s => s.state == 2 || s.state == 3 || s.state == 4 | none => false
theorem kP {R : Rn} {k : Nat} {s : Sp} (h : R.steps[k]? = some s) : act R k = true ↔ s.state = 2 ∨ s.state = 3 ∨ s.state = 4 := by
 unfold act
 rw [h]
 simp only [Bool.or_eq_true, beq_iff_eq]
 omega
section
variable {id : Nat} {g : Int} {F : Flow} {S U : En} {R : Rn} {w : Nat → Int}
theorem Cred.act {d : Int} (h : Cred id g S.now S R d w) (hL : Lone id F S R) (hlt : ∀ x ∈ S.tms, S.now < x.2) (hg : 0 ≤ g) (hd : 0 ≤ d) {k : Nat} (hk : act R k = true) : 1 ≤ w k := by
 obtain ⟨s, hs⟩ : ∃ s, R.steps[k]? = some s := by
  unfold FK.act at hk
  cases hs : R.steps[k]? with
  | none => rw [hs] at hk; cases hk
  | some s => exact ⟨s, rfl⟩
 obtain ⟨n, hn, hp⟩ := hL.ok.node hL.get hs
 have hno := ((hL.ok.run id R hL.get).fl.nodes k n (bx hn) hn).1
 have hc := qa hno hg
 rw [kP hs] at hk
 obtain ⟨_, _, _, _, ⟨h2, _⟩, ⟨h3, _⟩, ⟨h4, _⟩⟩ := hno
 rcases hk with e | e | e
 · have h1 := h.two k s n hs hn e
   have h2 := B3 (c := l7 n g) (hp.low (by omega)) (by omega)
   omega
 · obtain ⟨a, ha, h1⟩ := h.three k s n hs hn e
   have := hlt _ ha
   have h2 := yu (c := l7 n g) hp.trb (by omega)
   simp only at this
   omega
 · obtain ⟨a, ha, h1⟩ := h.four k s n hs hn e
   have := hlt _ ha
   have h2 := yu (c := l7 n g) hp.trb (by omega)
   simp only at this
   omega
theorem Cred.pass {d d' : Int} (h : Cred id g S.now S R d w) (hL : Lone id F S R) (hlt : ∀ x ∈ S.tms, S.now < x.2) (hg : 0 ≤ g) (hd0 : 0 ≤ d) (hd : (1 ≤ d ∧ d' = d - 1) ∨ ∀ (k : Nat) (s : Sp), R.steps[k]? = some s → s.state ≠ 2) : Cred id g (S.now + 1) S R d' (fun k => if FK.act R k = true then w k - 1 else w k) := by
 have hw : ∀ {k : Nat} {s : Sp}, R.steps[k]? = some s → (s.state = 2 ∨ s.state = 3 ∨ s.state = 4) → (if FK.act R k = true then w k - 1 else w k) = w k - 1 := fun hs h => if_pos ((kP hs).2 h)
 refine ⟨fun k => ?_, fun k s n hs hn e => ?_, fun k s n hs hn e => ?_, fun k s n hs hn e => ?_, fun k s n hs hn e => ?_⟩
 · show 0 ≤ if FK.act R k = true then w k - 1 else w k
   split
   · rename_i ha
     have := h.act hL hlt hg hd0 ha
     omega
   · exact h.pos k
 · have : ¬ FK.act R k = true := by rw [kP hs]; omega
   show _ ≤ if FK.act R k = true then w k - 1 else w k
   rw [if_neg this]
   exact h.one k s n hs hn e
 · show _ ≤ (if FK.act R k = true then w k - 1 else w k) + g
   rw [hw hs (.inl e)]
   have := h.two k s n hs hn e
   rcases hd with ⟨h1, rfl⟩ | h1
   · omega
   · exact absurd e (h1 k s hs)
 · obtain ⟨a, ha, h1⟩ := h.three k s n hs hn e
   refine ⟨a, ha, ?_⟩
   show _ ≤ if FK.act R k = true then w k - 1 else w k
   rw [hw hs (.inr (.inl e))]
   omega
 · obtain ⟨a, ha, h1⟩ := h.four k s n hs hn e
   refine ⟨a, ha, ?_⟩
   show _ ≤ if FK.act R k = true then w k - 1 else w k
   rw [hw hs (.inr (.inr e))]
   omega
end
theorem Lone.due_cred {id : Nat} {F : Flow} {S : En} {R : Rn} (hL : Lone id F S R) {x : KD} {tms' : List KD} (hm : IsMin S.tms x tms') {g d : Int} {w : Nat → Int} (_hg : 0 ≤ g) (hd : d ≤ g) {up D : Nat} (hx : x.2 = up) (hle : ∀ y ∈ S.tms, up ≤ y.2)
 (hC : Cred id g up S R d w) (hD : R.state = 1 → ((⟨id, -1, 0⟩ : Pl), D) ∈ S.tms) : ∀ R', ({ S with now := x.2, tms := tms' }.due x.1).getR id = some R' → R'.state = 1 → Cred id g up ({ S with now := x.2, tms := tms' }.due x.1) R' d w ∧ ((⟨id, -1, 0⟩ : Pl), D) ∈ ({ S with now := x.2, tms := tms' }.due x.1).tms ∧ ∀ y ∈ ({ S with now := x.2, tms := tms' }.due x.1).tms, up ≤ y.2 := by
 obtain ⟨hok1, hno, R1, hR1, htm⟩ := hL.ok.pop hm
 have hxm := hm.mem
 have hperm := hm.perm
 have hrid : x.1.run = id := Classical.byContradiction fun hn => hL.alone _ R1 hn hR1 htm.1
 have hR1' : R1 = R := by rw [hrid, hL.get] at hR1; injection hR1 with hR1; exact hR1.symm
 subst hR1'
 have hrun := htm.1
 have hD := hD hrun
 obtain ⟨S1, hS1⟩ : ∃ S1 : En, S1 = { S with now := x.2, tms := tms' } := ⟨_, rfl⟩
 have hL1 : Lone id F S1 R1 := by
  rw [hS1]
  refine ⟨hok1, hL.get, hL.fl, hL.seed, hL.alone, hL.hon, fun y hy => ?_⟩
  exact hm.le y (hperm.mem_iff.2 (.tail _ hy))
 rw [← hS1] at hok1 ⊢
 have hnow : S1.now = up := by rw [hS1]; exact hx
 have hR1' : S1.getR x.1.run = some R1 := by rw [hrid]; exact hL1.get
 have hrest : ∀ y ∈ S.tms, y.1 ≠ x.1 → y ∈ S1.tms := fun y hy hne => by
  rw [hS1]
  rcases List.mem_cons.1 (hperm.mem_iff.1 hy) with e | e
  · exact absurd (by rw [e]) hne
  · exact e
 have hle1 : ∀ y ∈ S1.tms, up ≤ y.2 := fun y hy => by
  rw [hS1] at hy
  exact hle y (hperm.mem_iff.2 (.tail _ hy))
 obtain ⟨p, hp⟩ : ∃ p, p = x.1 := ⟨_, rfl⟩
 rw [← hp] at hR1' htm hrid hrest ⊢
 intro R' hR' hrun'
 rcases fQ hR1' htm with ⟨_, e⟩ | ⟨k, s, hs, ⟨e1, h4, e⟩ | ⟨e1, h3, e⟩⟩
 · rw [e, hrid] at hR'
   obtain ⟨R2, hF⟩ := hok1.fin hL1.get 5
   rw [hF.get] at hR'
   injection hR' with hR'
   subst hR'
   rw [hF.state] at hrun'
   omega
 · rw [e, hrid] at hR' ⊢
   have hpk : p = ⟨id, (k : Int), 1⟩ := by rw [e1, hrid]
   have hmv := rr hL1.get hs hrun h4 hL1.hon
   rw [hmv.get] at hR'
   injection hR' with hR'
   subst hR'
   have hC1 : ∀ (j : Nat), j ≠ k → ∀ a, ((⟨id, (j : Int), 1⟩ : Pl), a) ∈ S.tms → ((⟨id, (j : Int), 1⟩ : Pl), a) ∈ (S1.ready id k).tms := fun j hj a ha => by
    rw [(gQ hL1.get hs).2.tms]
    refine hrest _ ha fun e => ?_
    rw [hpk] at e
    exact hj (eP e).2.1
   obtain ⟨n, hn, hsp⟩ := hL.ok.node hL.get hs
   obtain ⟨a, ha, hcr⟩ := hC.four k s n hs hn h4
   have hax : a = up := by
    have := eg hL.ok.knd ha hxm (by rw [← hp, hpk])
    rw [← hx, ← this]
   refine ⟨⟨hC.pos, fun j u n hj hnj e => ?_, fun j u n hj hnj e => ?_, fun j u n hj hnj e => ?_, fun j u n hj hnj e => ?_⟩, ?_, fun y hy => ?_⟩
   · rcases dr hj with ⟨rfl, rfl⟩ | ⟨_, hj⟩
     · replace e : (2 : Int) = 1 := e
       omega
     · exact hC.one j u n hj hnj e
   · rcases dr hj with ⟨rfl, rfl⟩ | ⟨_, hj⟩
     · have : n = _ := Option.some.inj (hnj.symm.trans hn)
       subst this
       show (n.budget - s.tries) * l7 n g + d ≤ w j + g
       omega
     · exact hC.two j u n hj hnj e
   · rcases dr hj with ⟨rfl, rfl⟩ | ⟨hjk, hj⟩
     · replace e : (2 : Int) = 3 := e
       omega
     · obtain ⟨a, ha, h1⟩ := hC.three j u n hj hnj e
       exact ⟨a, hC1 j hjk a ha, h1⟩
   · rcases dr hj with ⟨rfl, rfl⟩ | ⟨hjk, hj⟩
     · replace e : (2 : Int) = 4 := e
       omega
     · obtain ⟨a, ha, h1⟩ := hC.four j u n hj hnj e
       exact ⟨a, hC1 j hjk a ha, h1⟩
   · rw [(gQ hL1.get hs).2.tms]
     exact hrest _ hD (by rw [hpk]; exact iU)
   · rw [(gQ hL1.get hs).2.tms] at hy
     exact hle1 y hy
 · rw [e, hrid] at hR' ⊢
   have hpk : ∃ v, p = ⟨id, (k : Int), v⟩ := by
    rcases e1 with e1 | e1 <;> exact ⟨_, by rw [e1, hrid]⟩
   obtain ⟨v, hpk⟩ := hpk
   obtain ⟨R2, s', n, hn, hs', ht, hst, new, hmv, hnew, hnk, _, h4, _⟩ := hL1.failed hs h3
   rw [hmv.get] at hR'
   injection hR' with hR'
   subst hR'
   have hn1 : R1.fl.nodes[k]? = some n := by rw [hL.fl]; exact hn
   have hno := ((hL.ok.run id R1 hL.get).fl.nodes k n (bx hn1) hn1).1
   obtain ⟨hw1, hw2⟩ := nO n hno s.tries
   have hj0 : 0 ≤ n.jitter := hno.2.2.2.2.2.2.1
   obtain ⟨a, ha, hcr⟩ := hC.three k s n hs hn1 h3
   have hau := hle _ ha
   simp only at hau
   have hkeep : ∀ {j : Nat} {a : Nat}, j ≠ k → ((⟨id, (j : Int), 1⟩ : Pl), a) ∈ S.tms → ((⟨id, (j : Int), 1⟩ : Pl), a) ∈ (S1.failed id k).tms := fun {j a} hj hx => hmv.keep hrun' _ (hrest _ hx fun e => by rw [hpk] at e; exact hj (eP e).2.1) fun v e => hj (eP e).2.1
   refine ⟨⟨hC.pos, fun j u m hj hmj e => ?_, fun j u m hj hmj e => ?_, fun j u m hj hmj e => ?_, fun j u m hj hmj e => ?_⟩, ?_, fun y hy => ?_⟩
   · rw [hmv.fl] at hmj
     by_cases hjk : j = k
     · subst hjk
       rw [hs'] at hj
       injection hj with hj
       subst hj
       omega
     · obtain ⟨u0, hu, hx⟩ := hmv.back hjk hj
       exact hC.one j u0 m hu hmj (hx.w1 e)
   · rw [hmv.fl] at hmj
     by_cases hjk : j = k
     · subst hjk
       rw [hs'] at hj
       injection hj with hj
       subst hj
       omega
     · obtain ⟨u0, hu, hx⟩ := hmv.back hjk hj
       rw [hx.tries]
       rcases hx.w2 e with e | e
       · exact hC.two j u0 m hu hmj e
       · have h1 := hC.one j u0 m hu hmj e
         have h0 := ((hL.ok.run id R1 hL.get).sp j u0 m hu hmj).wait e
         rw [h0, Int.sub_zero]
         omega
   · rw [hmv.fl] at hmj
     by_cases hjk : j = k
     · subst hjk
       rw [hs'] at hj
       injection hj with hj
       subst hj
       omega
     · obtain ⟨u0, hu, hx⟩ := hmv.back hjk hj
       obtain rfl := (hx.w3 e).symm
       obtain ⟨a, h1, h2⟩ := hC.three j u0 m hu hmj e
       exact ⟨a, hkeep hjk h1, h2⟩
   · rw [hmv.fl] at hmj
     by_cases hjk : j = k
     · subst hjk
       rw [hs'] at hj
       injection hj with hj
       subst hj
       rw [hn1] at hmj
       injection hmj with hmj
       subst hmj
       obtain ⟨g1, -, g3⟩ := h4 e
       refine ⟨S1.later (eM n.base n.cap n.jitter s.tries 0).toNat, hmv.newin g1 _ (by rw [g3]; exact List.mem_singleton.2 rfl), ?_⟩
       have := nw S1 (eM n.base n.cap n.jitter s.tries 0).toNat
       rw [hnow] at this
       rw [ht]
       omega
     · obtain ⟨u0, hu, hx⟩ := hmv.back hjk hj
       rw [hx.tries]
       obtain ⟨a, h1, h2⟩ := hC.four j u0 m hu hmj (hx.w4 e)
       exact ⟨a, hkeep hjk h1, h2⟩
   · exact hmv.keep hrun' _ (hrest _ hD (by rw [hpk]; exact iU)) fun v => iU
   · rcases hmv.tms y hy with h | h
     · exact hle1 y h
     · have := hnew y h
       omega
theorem Ticks.cred {up : Nat} {S U : En} (h : Ticks up S U) : ∀ {id : Nat} {F : Flow} {R : Rn} {g d : Int} {w : Nat → Int} {D : Nat}, S.now ≤ up → up ≤ 4611686018427387904 → Lone id F S R → 0 ≤ g → d ≤ g → (∀ y ∈ S.tms, up ≤ y.2) → (R.state = 1 → Cred id g up S R d w ∧ ((⟨id, -1, 0⟩ : Pl), D) ∈ S.tms) → ∃ R', Lone id F U R' ∧ U.now = up ∧ (∀ x ∈ U.tms, up < x.2) ∧ (R'.state = 1 → R.state = 1 ∧ Cred id g up U R' d w ∧ ((⟨id, -1, 0⟩ : Pl), D) ∈ U.tms) := by
 induction h with
 | @done S hd =>
  intro id F R g d w D hle hup hL hg hdg hy hC
  refine ⟨R, ⟨hL.ok.times (sets := _) hup hL.ok.knd hL.ok.tms, hL.get, hL.fl, hL.seed, hL.alone, hL.hon, fun x hx => Nat.le_of_lt (hd x hx)⟩, rfl, hd, fun h1 => ?_⟩
  obtain ⟨c1, c2⟩ := hC h1
  exact ⟨h1, ⟨c1.pos, c1.one, c1.two, c1.three, c1.four⟩, c2⟩
 | @step S U x tms' hm hx _ ih =>
  intro id F R g d w D hle hup hL hg hdg hy hC
  have hxu : x.2 = up := by
   have := hy x hm.mem
   omega
  obtain ⟨R1, hg1⟩ := hL.due_go hm
  have hnow : ({ S with now := x.2, tms := tms' }.due x.1).now = x.2 := by
   obtain ⟨hok1, hno, R1, hR1, htm⟩ := hL.ok.pop hm
   exact (hok1.due_less hR1 htm).now
  have hrun : R.state = 1 := by
   obtain ⟨_, hno, R2, hR2, htm⟩ := hL.ok.pop hm
   have hrid : x.1.run = id := Classical.byContradiction fun hn => hL.alone _ R2 hn hR2 htm.1
   rw [hrid, hL.get] at hR2
   injection hR2 with hR2
   rw [hR2]
   exact htm.1
  obtain ⟨c1, c2⟩ := hC hrun
  have hdc := hL.due_cred hm hg hdg hxu hy c1 (fun _ => c2) R1 hg1.lone.get
  by_cases h1 : R1.state = 1
  · obtain ⟨d1, d2, d3⟩ := hdc h1
    obtain ⟨R', e1, e2, e3, e4⟩ := ih (by rw [hnow]; omega) hup hg1.lone hg hdg d3 fun _ => ⟨d1, d2⟩
    exact ⟨R', e1, e2, e3, fun h => ⟨hrun, (e4 h).2⟩⟩
  · have hnil : ∀ y ∈ ({ S with now := x.2, tms := tms' }.due x.1).tms, up ≤ y.2 := fun y hy => by
     have := hg1.lone.due y hy
     rw [hnow] at this
     omega
    obtain ⟨R', e1, e2, e3, e4⟩ := ih (w := w) (D := D) (by rw [hnow]; omega) hup hg1.lone hg hdg hnil fun h => absurd h h1
    exact ⟨R', e1, e2, e3, fun h => absurd (e4 h).1 h1⟩
end FK

namespace FK
theorem Lone.due_dead {id : Nat} {F : Flow} {S : En} {R : Rn} (hL : Lone id F S R) {x : KD} {tms' : List KD} (hm : IsMin S.tms x tms') {D : Nat} (hD : R.state = 1 → ((⟨id, -1, 0⟩ : Pl), D) ∈ S.tms) : ∀ R', ({ S with now := x.2, tms := tms' }.due x.1).getR id = some R' → R'.state = 1 → ((⟨id, -1, 0⟩ : Pl), D) ∈ ({ S with now := x.2, tms := tms' }.due x.1).tms := by
 obtain ⟨hok1, hno, R1, hR1, htm⟩ := hL.ok.pop hm
 have hxm := hm.mem
 have hperm := hm.perm
 have hrid : x.1.run = id := Classical.byContradiction fun hn => hL.alone _ R1 hn hR1 htm.1
 have hR1' : R1 = R := by rw [hrid, hL.get] at hR1; injection hR1 with hR1; exact hR1.symm
 subst hR1'
 have hrun := htm.1
 have hD := hD hrun
 obtain ⟨S1, hS1⟩ : ∃ S1 : En, S1 = { S with now := x.2, tms := tms' } := ⟨_, rfl⟩
 have hL1 : Lone id F S1 R1 := by
  rw [hS1]
  refine ⟨hok1, hL.get, hL.fl, hL.seed, hL.alone, hL.hon, fun y hy => ?_⟩
  exact hm.le y (hperm.mem_iff.2 (.tail _ hy))
 rw [← hS1] at hok1 ⊢
 have hR1' : S1.getR x.1.run = some R1 := by rw [hrid]; exact hL1.get
 have hrest : ∀ y ∈ S.tms, y.1 ≠ x.1 → y ∈ S1.tms := fun y hy hne => by
  rw [hS1]
  rcases List.mem_cons.1 (hperm.mem_iff.1 hy) with e | e
  · exact absurd (by rw [e]) hne
  · exact e
 obtain ⟨p, hp⟩ : ∃ p, p = x.1 := ⟨_, rfl⟩
 rw [← hp] at hR1' htm hrid hrest ⊢
 intro R' hR' hrun'
 rcases fQ hR1' htm with ⟨_, e⟩ | ⟨k, s, hs, ⟨e1, h4, e⟩ | ⟨e1, h3, e⟩⟩
 · rw [e, hrid] at hR'
   obtain ⟨R2, hF⟩ := hok1.fin hL1.get 5
   rw [hF.get] at hR'
   injection hR' with hR'
   subst hR'
   rw [hF.state] at hrun'
   omega
 · rw [e, hrid]
   rw [(gQ hL1.get hs).2.tms]
   exact hrest _ hD (by rw [e1, hrid]; exact iU)
 · rw [e, hrid] at hR' ⊢
   have hpk : ∃ v, p = ⟨id, (k : Int), v⟩ := by
    rcases e1 with e1 | e1 <;> exact ⟨_, by rw [e1, hrid]⟩
   obtain ⟨v, hpk⟩ := hpk
   obtain ⟨R2, s', n, hn, hs', ht, hst, new, hmv, hnew, hnk, _, h4, _⟩ := hL1.failed hs h3
   rw [hmv.get] at hR'
   injection hR' with hR'
   subst hR'
   exact hmv.keep hrun' _ (hrest _ hD (by rw [hpk]; exact iU)) fun v => iU
theorem Ticks.dead {up : Nat} {S U : En} (h : Ticks up S U) : ∀ {id : Nat} {F : Flow} {R : Rn} {D : Nat}, S.now ≤ up → up ≤ 4611686018427387904 → Lone id F S R → (R.state = 1 → ((⟨id, -1, 0⟩ : Pl), D) ∈ S.tms) → ∀ R', U.getR id = some R' → R'.state = 1 → R.state = 1 ∧ ((⟨id, -1, 0⟩ : Pl), D) ∈ U.tms := by
 induction h with
 | @done S hd =>
  intro id F R D hle hup hL hC R' hR' h1
  have : R' = R := Option.some.inj (hR'.symm.trans hL.get)
  subst this
  exact ⟨h1, hC h1⟩
 | @step S U x tms' hm hx _ ih =>
  intro id F R D hle hup hL hC R' hR' h1
  obtain ⟨R1, hg1⟩ := hL.due_go hm
  have hnow : ({ S with now := x.2, tms := tms' }.due x.1).now = x.2 := by
   obtain ⟨hok1, hno, R1, hR1, htm⟩ := hL.ok.pop hm
   exact (hok1.due_less hR1 htm).now
  have hrun : R.state = 1 := by
   obtain ⟨_, hno, R2, hR2, htm⟩ := hL.ok.pop hm
   have hrid : x.1.run = id := Classical.byContradiction fun hn => hL.alone _ R2 hn hR2 htm.1
   rw [hrid, hL.get] at hR2
   injection hR2 with hR2
   rw [hR2]
   exact htm.1
  refine ⟨hrun, (ih (by rw [hnow]; exact hx) hup hg1.lone (hL.due_dead hm hC R1 hg1.lone.get) R' hR' h1).2⟩
def ia (t g : Nat) : Int := if t % g = 0 then 0 else (g : Int) - (t % g : Nat)
theorem oc {t g : Nat} (hg : 0 < g) : 0 ≤ ia t g := by
 unfold ia
 have := Nat.mod_lt t hg
 split <;> omega
theorem p8 {t g : Nat} : ia t g ≤ g := by
 unfold ia
 split <;> omega
theorem zw {t g : Nat} (hg : 0 < g) (h : t % g ≠ 0) : 1 ≤ ia t g ∧ ia (t + 1) g = ia t g - 1 := by
 unfold ia
 have h1 := Nat.mod_lt t hg
 have h2 : (t + 1) % g = if t % g + 1 = g then 0 else t % g + 1 := by
  rw [Nat.add_mod]
  by_cases hg1 : g = 1
  · subst hg1
    omega
  · rw [Nat.mod_eq_of_lt (a := 1) (by omega)]
    split
    · rename_i e
      rw [e, Nat.mod_self]
    · exact Nat.mod_eq_of_lt (by omega)
 rw [if_neg h, h2]
 by_cases e : t % g + 1 = g
 · rw [if_pos e, if_pos rfl]
   omega
 · rw [if_neg e, if_neg (by omega)]
   omega
structure Drv (id : Nat) (F : Flow) (polls : Bool) (g T0 D : Nat) (sum : Int) (S : En) (R : Rn) (t : Nat) : Prop where
 lone : Lone id F S R
 now : S.now = T0 + t
 lt : ∀ x ∈ S.tms, S.now < x.2
 dead : R.state = 1 → ((⟨id, -1, 0⟩ : Pl), D) ∈ S.tms
 cred : polls = true → R.state = 1 → ∃ w, Cred id g S.now S R (ia t g) w ∧ kh w F.nodes.length + t ≤ sum
section
variable {id : Nat} {F : Flow} {polls : Bool} {g T0 D : Nat} {sum : Int} {S U : En} {R : Rn} {t : Nat}
theorem yG {id : Nat} {F : Flow} {S : En} {R : Rn} (hL : Lone id F S R) {k : Nat} {s : Sp} (hs : R.steps[k]? = some s) : k < F.nodes.length := by
 have := (hL.ok.run id R hL.get).len
 rw [← hL.fl, ← this]
 exact (List.getElem?_eq_some_iff.1 hs).1
theorem o9 {id k : Nat} {S U : En} {R R' : Rn} {new : List KD} (hm : Mv id k S U R R' new) {s s' : Sp} (hs : R.steps[k]? = some s) (hs' : R'.steps[k]? = some s') (ht : s'.tries = s.tries) : R'.steps.map (·.tries) = R.steps.map (·.tries) := by
 apply List.ext_getElem?
 intro j
 rw [List.getElem?_map, List.getElem?_map]
 by_cases hj : j = k
 · subst hj
   rw [hs, hs']
   simp [ht]
 · cases hu : R.steps[j]? with
   | none =>
    rw [List.getElem?_eq_none_iff, ← hm.len, ← List.getElem?_eq_none_iff] at hu
    rw [hu]
   | some u =>
    obtain ⟨u', hu', hx⟩ := hm.steps j u hj hu
    rw [hu']
    simp [hx.tries]
theorem Drv.tick (h : Drv id F polls g T0 D sum S R t) (hg : 0 < g) (hmax : T0 + t + 1 ≤ 4611686018427387904) (hq : polls = true → t % g = 0 → S.queue = []) (ht : Ticks (S.later 1) S U) : ∃ R', Drv id F polls g T0 D sum U R' (t + 1) ∧ U.now = S.now + 1 ∧ ∀ x ∈ U.tms, S.now + 1 < x.2 := by
 have hL := h.lone
 have hup : S.later 1 = S.now + 1 := by unfold En.later; rw [h.now]; omega
 rw [hup] at ht
 have hn1 : S.now + 1 ≤ 4611686018427387904 := by rw [h.now]; exact hmax
 obtain ⟨R1, hgo, h1, h2⟩ := ht.go (Nat.le_succ _) hn1 hL
 have hdd := ht.dead (Nat.le_succ _) hn1 hL h.dead R1 hgo.lone.get
 refine ⟨R1, ⟨hgo.lone, by rw [h1, h.now]; omega, fun x hx => by rw [h1]; exact h2 x hx, fun e => (hdd e).2, fun hp hr => ?_⟩, h1, h2⟩
 have hrun := (hdd hr).1
 obtain ⟨w, hC, hw⟩ := h.cred hp hrun
 have hno2 : t % g = 0 → ∀ (k : Nat) (s : Sp), R.steps[k]? = some s → s.state ≠ 2 := fun h0 k s hs e => by
  have : (⟨id, (k : Int), 0⟩ : Pl) ∈ S.queue := (hL.ok.queue _).2 ⟨id, k, s, rfl, eY hL.get hs, e⟩
  rw [hq hp h0] at this
  cases this
 have hpass := hC.pass (d' := ia (t + 1) g) hL h.lt (by omega) (oc hg) (by
  by_cases h0 : t % g = 0
  · exact .inr (hno2 h0)
  · exact .inl (zw hg h0))
 obtain ⟨R2, e1, e2, e3, e4⟩ := ht.cred (D := D) (Nat.le_succ _) hn1 hL (by omega) p8 (fun y hy => h.lt y hy) (fun _ => ⟨hpass, h.dead hrun⟩)
 have : R2 = R1 := Option.some.inj (e1.get.symm.trans hgo.lone.get)
 subst this
 obtain ⟨_, c1, _⟩ := e4 hr
 refine ⟨_, by rw [h1]; exact c1, ?_⟩
 obtain ⟨k, s, n, hs, hn, ha⟩ := hL.active hrun
 have hak : act R k = true := (kP hs).2 (by omega)
 have := uX (w := w) (v := fun k => if act R k = true then w k - 1 else w k) (fun j => by
  show (if act R j = true then w j - 1 else w j) ≤ w j
  split <;> omega) (k := k) (by
  show (if act R k = true then w k - 1 else w k) < w k
  rw [if_pos hak]
  omega) (yG hL hs)
 omega
theorem uq {S : En} {id k : Nat} {n : Node} (h : cf n) (hn : S.now < 4611686018427387904) : ∀ x ∈ kM S id k n, S.now < x.2 := fun x hx => by
 obtain ⟨_, _, ⟨h1, _⟩, _⟩ := h
 unfold kM En.later at hx
 rcases List.mem_cons.1 hx with rfl | hx
 · simp only
   omega
 · split at hx
   · rw [List.mem_singleton] at hx
     subst hx
     simp only
     omega
   · cases hx
theorem Drv.poll (h : Drv id F polls g T0 D sum S R t) (hmax : T0 + t + 1 ≤ 4611686018427387904) (h0 : t % g = 0) {k : Nat} {q : List Pl} {s : Sp} {n : Node} (hq : S.queue = ⟨id, (k : Int), 0⟩ :: q) (hs : R.steps[k]? = some s) (h2 : s.state = 2) (hn : R.fl.nodes[k]? = some n) : Drv id F polls g T0 D sum (S.hand ⟨id, (k : Int), 0⟩ q R s n) (R.setS k ⟨3, s.tries + 1, S.lastToken + 1⟩) t := by
 have hL := h.lone
 have hok := hL.ok.hand hq hL.get hs hn
 have hm := hL.ok.hand_mv hq hL.get hs hn hL.hon
 have hrun := hL.ok.running hL.get hs (by omega)
 have hno := ((hL.ok.run id R hL.get).fl.nodes k n (bx hn) hn).1
 have hlt := uq (S := S) (id := id) (k := k) hno (by rw [h.now]; omega)
 refine ⟨hm.lone hL hok fun x hx => Nat.le_of_lt (hlt x hx), by rw [hm.now]; exact h.now, fun x hx => ?_, fun _ => ?_, fun hp _ => ?_⟩
 · rw [hm.now]
   rcases hm.tms x hx with e | e
   · exact h.lt x e
   · exact hlt x e
 · exact hm.keep hrun _ (h.dead hrun) fun w => iU
 · obtain ⟨w, hC, hw⟩ := h.cred hp hrun
   refine ⟨w, ?_, hw⟩
   rw [hm.now]
   refine hC.mv hL.ok hL.get hm hrun p8 fun s' m hs' hm' => ?_
   rw [cd hs] at hs'
   injection hs' with hs'
   subst hs'
   have hm' : n = m := Option.some.inj (hn.symm.trans hm')
   subst hm'
   refine ⟨fun e => by replace e : (3 : Int) = 1 := e; omega, fun e => by replace e : (3 : Int) = 2 := e; omega, fun _ => ⟨S.later n.close.toNat, hm.newin hrun _ (List.mem_cons_self), ?_⟩, fun e => by replace e : (3 : Int) = 4 := e; omega⟩
   have h3 := hC.two k s n hs hn h2
   have hg0 : ia t g = 0 := by unfold ia; rw [if_pos h0]
   rw [hg0] at h3
   have h4 := nw S n.close.toNat
   obtain ⟨_, _, ⟨h5, _⟩, _⟩ := hno
   have h6 : (n.budget - (s.tries + 1)) * l7 n g = (n.budget - s.tries) * l7 n g - l7 n g := by
    rw [show n.budget - (s.tries + 1) = (n.budget - s.tries) - 1 by omega, Int.sub_mul, Int.one_mul]
   show (n.budget - (s.tries + 1)) * l7 n g + n.cap + n.jitter + _ ≤ _
   rw [h6]
   unfold l7 at h3 ⊢
   omega
theorem Drv.complete (h : Drv id F polls g T0 D sum S R t) {tok k : Nat} {s : Sp} (ht : (S.tasks.find? (·.1 == tok)).map (·.2) = some ⟨id, (k : Int), 0⟩) (hs : R.steps[k]? = some s) (h3 : s.state = 3) : ∃ R', Drv id F polls g T0 D sum (S.complete tok) R' t ∧ R'.steps.map (·.tries) = R.steps.map (·.tries) := by
 have hL := h.lone
 have hok := hL.ok.complete tok
 obtain ⟨R', hm, s', hs', h5, htr⟩ := hL.ok.complete_mv ht hL.get hs h3 hL.hon
 have hrun := hL.ok.running hL.get hs (by omega)
 refine ⟨R', ⟨hm.lone hL hok (fun x hx => by cases hx), by rw [hm.now]; exact h.now, fun x hx => ?_, fun e => ?_, fun hp hr => ?_⟩, ?_⟩
 · rw [hm.now]
   rcases hm.tms x hx with e | e
   · exact h.lt x e
   · cases e
 · exact hm.keep e _ (h.dead hrun) fun w => iU
 · obtain ⟨w, hC, hw⟩ := h.cred hp hrun
   refine ⟨w, ?_, hw⟩
   rw [hm.now]
   refine hC.mv hL.ok hL.get hm hr p8 fun u m hu _ => ?_
   rw [hs'] at hu
   injection hu with hu
   subst hu
   exact ⟨fun e => by omega, fun e => by omega, fun e => by omega, fun e => by omega⟩
 · exact o9 hm hs hs' htr
theorem Drv.fail (h : Drv id F polls g T0 D sum S R t) (hmax : T0 + t + 1 ≤ 4611686018427387904) {tok k : Nat} {s : Sp} (ht : (S.tasks.find? (·.1 == tok)).map (·.2) = some ⟨id, (k : Int), 0⟩) (hs : R.steps[k]? = some s) (h3 : s.state = 3) : ∃ R', Drv id F polls g T0 D sum (S.fail tok) R' t ∧ R'.steps.map (·.tries) = R.steps.map (·.tries) := by
 have hL := h.lone
 have hrun := hL.ok.running hL.get hs (by omega)
 rw [kO ht]
 obtain ⟨R', s', n, hn, hs', htr, hst, new, hm, hnew, hnk, hok, h4, h6⟩ := hL.failed hs h3
 have hn1 : R.fl.nodes[k]? = some n := by rw [hL.fl]; exact hn
 have hno := ((hL.ok.run id R hL.get).fl.nodes k n (bx hn1) hn1).1
 obtain ⟨hw1, hw2⟩ := nO n hno s.tries
 have hj0 : 0 ≤ n.jitter := hno.2.2.2.2.2.2.1
 have hnl : ∀ x ∈ new, S.now < x.2 := fun x hx => by
  rcases hst with e | e
  · obtain ⟨_, _, g3⟩ := h4 e
    rw [g3, List.mem_singleton] at hx
    subst hx
    have := h.now
    unfold En.later
    simp only
    omega
  · rw [h6 e] at hx
    cases hx
 refine ⟨R', ⟨hm.lone hL hok hnew, by rw [hm.now]; exact h.now, fun x hx => ?_, fun e => ?_, fun hp hr => ?_⟩, o9 hm hs hs' htr⟩
 · rw [hm.now]
   rcases hm.tms x hx with e | e
   · exact h.lt x e
   · exact hnl x e
 · exact hm.keep e _ (h.dead hrun) fun w => iU
 · obtain ⟨w, hC, hw⟩ := h.cred hp hrun
   refine ⟨w, ?_, hw⟩
   rw [hm.now]
   refine hC.mv hL.ok hL.get hm hr p8 fun u m hu hm' => ?_
   rw [hs'] at hu
   injection hu with hu
   subst hu
   have hm' : n = m := Option.some.inj (hn1.symm.trans hm')
   subst hm'
   refine ⟨fun e => by omega, fun e => by omega, fun e => by omega, fun e => ?_⟩
   obtain ⟨g1, -, g3⟩ := h4 e
   refine ⟨S.later (eM n.base n.cap n.jitter s.tries 0).toNat, hm.newin g1 _ (by rw [g3]; exact List.mem_singleton.2 rfl), ?_⟩
   obtain ⟨a, ha, h7⟩ := hC.three k s n hs hn1 h3
   have h8 := nw S (eM n.base n.cap n.jitter s.tries 0).toNat
   have h9 := hL.due _ ha
   simp only at h9
   rw [htr]
   omega
end
end FK

namespace FK
structure FI (r B : Nat) (S : En) : Prop where
 ok : Ok S
 runs : ∀ id R, S.getR id = some R → id = 1 ∨ ∃ n, FRun n R
 q1 : ∀ p ∈ S.queue, p.run ≠ 1
 lastRun : S.lastRun = 1 + r
 len : S.runs.length = 1 + r
 sets : S.sets ≤ B
 tok : S.lastToken ≤ B
 ends : S.ends ≤ B
theorem FI.start : FI 0 10 o8 := by
 refine ⟨oQ, fun id R h => ?_, fun p hp => (by cases hp), rfl, rfl, by decide, by decide, by decide⟩
 have := iQ h
 have h1 : (id, R) ∈ [(1, pO 2 ⟨5, 2, 0⟩ ⟨5, 1, 0⟩ 1)] := this
 rw [List.mem_singleton] at h1
 injection h1 with h1
 exact .inl h1
theorem FI.mono {r B B' : Nat} {S : En} (h : FI r B S) (hB : B ≤ B') : FI r B' S := ⟨h.ok, h.runs, h.q1, h.lastRun, h.len, Nat.le_trans h.sets hB, Nat.le_trans h.tok hB, Nat.le_trans h.ends hB⟩
end FK
