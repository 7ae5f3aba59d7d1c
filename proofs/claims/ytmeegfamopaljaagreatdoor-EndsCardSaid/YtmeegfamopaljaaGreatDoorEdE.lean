/- The engine in plain data: what each call turns of the one run that goes on. -/
import Derived.Test.YtmeegfamopaljaaGreatDoorEdD
namespace FK
structure Mv (id k : Nat) (S U : En) (R R' : Rn) (new : List KD) : Prop where
 get : U.getR id = some R'
 others : ∀ a, a ≠ id → U.getR a = S.getR a
 keys : U.runs.map (·.1) = S.runs.map (·.1)
 now : U.now = S.now
 seed : U.seed = S.seed
 lastRun : U.lastRun = S.lastRun
 lastToken : S.lastToken ≤ U.lastToken ∧ U.lastToken ≤ S.lastToken + 1
 ends : U.ends ≤ S.ends + 1
 sets : U.sets ≤ S.sets + 2
 fl : R'.fl = R.fl
 len : R'.steps.length = R.steps.length
 steps : ∀ (j : Nat) (s : Sp), j ≠ k → R.steps[j]? = some s → ∃ s', R'.steps[j]? = some s' ∧ Nx s s'
 hon : Hon R'
 tms : ∀ x ∈ U.tms, x ∈ S.tms ∨ x ∈ new
 keep : R'.state = 1 → ∀ x ∈ S.tms, (∀ w, x.1 ≠ ⟨id, (k : Int), w⟩) → x ∈ U.tms
 newin : R'.state = 1 → ∀ x ∈ new, x ∈ U.tms
theorem fB (R : Rn) (k : Nat) (s : Sp) (st : Int) : R.turned k s st = R.setS k ⟨st, s.tries, 0⟩ := by
 unfold Rn.turned
 rw [jW]
theorem vZ {R : Rn} {k : Nat} {s : Sp} (hs : R.steps[k]? = some s) (st : Int) : (R.turned k s st).steps[k]? = some ⟨st, s.tries, 0⟩ := by
 rw [fB]
 exact cd hs
theorem ic {R : Rn} {k j : Nat} {s : Sp} (h : j ≠ k) : (R.setS k s).steps[j]? = R.steps[j]? := by
 unfold Rn.setS
 exact List.getElem?_set_ne (Ne.symm h)
theorem setS_len {R : Rn} {k : Nat} {s : Sp} : (R.setS k s).steps.length = R.steps.length := by simp [Rn.setS]
theorem dr {R : Rn} {k j : Nat} {s' u : Sp} (h : (R.setS k s').steps[j]? = some u) : (j = k ∧ u = s') ∨ (j ≠ k ∧ R.steps[j]? = some u) := by
 by_cases hj : j = k
 · subst hj
   have hlt : j < R.steps.length := by have := (List.getElem?_eq_some_iff.1 h).1; rwa [setS_len] at this
   have hs : R.steps[j]? = some (R.steps[j]) := List.getElem?_eq_getElem hlt
   rw [cd hs] at h
   injection h with h
   exact .inl ⟨rfl, h.symm⟩
 · rw [ic hj] at h
   exact .inr ⟨hj, h⟩
theorem jM {R : Rn} {k u : Nat} {s s' : Sp} {x : Int} (hs : R.steps[k]? = some s) (h : u = k → (s'.state = x ↔ s.state = x)) : bR (R.setS k s').steps u x = bR R.steps u x := by
 by_cases hu : u = k
 · subst hu
   rw [cR (cd hs), cR hs, Bool.eq_iff_iff]
   simpa using h rfl
 · exact iX (ic hu)
theorem vf {R : Rn} {k j : Nat} {s s' : Sp} (hs : R.steps[k]? = some s) (h : s'.state = 5 ↔ s.state = 5) : im (R.setS k s') j ↔ im R j := by
 unfold im
 have : ∀ u, bR (R.setS k s').steps u 5 = bR R.steps u 5 := fun u => jM hs fun _ => h
 simp only [this]
 exact Iff.rfl
theorem yW {R : Rn} {k j : Nat} {s s' : Sp} (hs : R.steps[k]? = some s) (h : s.state = 5 → s'.state = 5) (hu : im R j) : im (R.setS k s') j := by
 unfold im at hu ⊢
 intro u hm
 obtain ⟨t, ht, h5⟩ := isAt_iff.1 (hu u hm)
 by_cases huk : u = k
 · subst huk
   rw [hs] at ht
   injection ht with ht
   subst ht
   exact isAt_iff.2 ⟨s', cd hs, h h5⟩
 · exact isAt_iff.2 ⟨t, by rw [ic huk]; exact ht, h5⟩
theorem Hon0.set {R : Rn} (h : Hon0 R) {k : Nat} {s s' : Sp} (hs : R.steps[k]? = some s) (h1 : 2 ≤ s.state ∧ s.state ≤ 4) (h2 : 2 ≤ s'.state ∧ s'.state ≤ 4) : Hon0 (R.setS k s') := by
 have h5 : s'.state = 5 ↔ s.state = 5 := by omega
 refine ⟨fun j u hj hr => ?_, fun hst j u hj hr => ?_, fun hst j u hj hr v hv => ?_⟩
 · rw [vf hs h5]
   rcases dr hj with ⟨rfl, rfl⟩ | ⟨_, hj⟩
   · exact h.up _ s hs (by omega)
   · exact h.up j u hj hr
 · rw [vf hs h5]
   rcases dr hj with ⟨rfl, rfl⟩ | ⟨_, hj⟩
   · omega
   · exact h.wt hst j u hj hr
 · rcases dr hj with ⟨rfl, rfl⟩ | ⟨_, hj⟩
   · omega
   · have := h.sk hst j u hj hr v hv
     rw [jM hs (fun _ => by omega), jM hs (fun _ => by omega)]
     exact this
theorem Hon.set {R : Rn} (h : Hon R) (hrun : R.state = 1) {k : Nat} {s s' : Sp} (hs : R.steps[k]? = some s) (h1 : 2 ≤ s.state ∧ s.state ≤ 4) (h2 : 2 ≤ s'.state ∧ s'.state ≤ 4) : Hon (R.setS k s') :=
 ⟨h.h0.set hs h1 h2, fun _ => ⟨k, s', cd hs, by rw [kV]; omega⟩, fun e => absurd (hrun.symm.trans e) (by decide), fun e => absurd hrun e⟩
theorem nt {S : En} {p : Pl} {a : Nat} {x : KD} (h : x ∈ (S.setT p a).tms) : (x ∈ S.tms ∧ x.1 ≠ p) ∨ x = (p, a) := by
 unfold En.setT at h
 rcases List.mem_append.1 h with h | h
 · obtain ⟨h1, h2⟩ := List.mem_filter.1 h
   exact .inl ⟨h1, by simpa using h2⟩
 · exact .inr (List.mem_singleton.1 h)
theorem jV {S : En} {p : Pl} {a : Nat} {x : KD} (h : x ∈ S.tms) (hne : x.1 ≠ p) : x ∈ (S.setT p a).tms := by
 unfold En.setT
 exact List.mem_append_left _ (List.mem_filter.2 ⟨h, by simpa using hne⟩)
theorem nq {S : En} {p : Pl} {a : Nat} : (p, a) ∈ (S.setT p a).tms := by
 unfold En.setT
 exact List.mem_append_right _ (List.mem_singleton.2 rfl)
theorem Ok.running {S : En} (h : Ok S) {id k : Nat} {R : Rn} {s : Sp} (hR : S.getR id = some R) (hs : R.steps[k]? = some s) (h1 : s.state = 1 ∨ s.state = 2 ∨ s.state = 3 ∨ s.state = 4) : R.state = 1 := by
 obtain ⟨n, hn, hp⟩ := h.node hR hs
 exact hp.running h1
def kM (S : En) (id k : Nat) (n : Node) : List KD := (⟨id, (k : Int), 1⟩, S.later n.close.toNat) :: (if 0 < n.beat then [(⟨id, (k : Int), 2⟩, S.later n.beat.toNat)] else [])
theorem Ok.hand_mv {S : En} (h : Ok S) {id k : Nat} {q : List Pl} (hq : S.queue = ⟨id, (k : Int), 0⟩ :: q) {R : Rn} {s : Sp} {n : Node} (hR : S.getR id = some R) (hs : R.steps[k]? = some s) (hn : R.fl.nodes[k]? = some n) (hH : Hon R) : Mv id k S (S.hand ⟨id, (k : Int), 0⟩ q R s n) R (R.setS k ⟨3, s.tries + 1, S.lastToken + 1⟩) (kM S id k n) := by
 obtain ⟨h2, -⟩ := h.handT hq hR hs hn
 have hrun := h.running hR hs (by omega)
 rw [vA]
 obtain ⟨T, hT⟩ : ∃ T, T = S.handT id k q R s := ⟨_, rfl⟩
 have hTn : T.later = S.later := by rw [hT]; rfl
 have hTt : T.tms = S.tms := by rw [hT]; rfl
 rw [← hT]
 obtain ⟨T1, hT1⟩ : ∃ T1, T1 = T.setT ⟨id, (k : Int), 1⟩ (S.later n.close.toNat) := ⟨_, rfl⟩
 rw [← hT1]
 have hl1 : T1.later = S.later := by rw [hT1]; exact hTn
 have hlife : T1.life ⟨id, (k : Int), 0⟩ n = if 0 < n.beat then T1.setT ⟨id, (k : Int), 2⟩ (S.later n.beat.toNat) else T1 := by
  unfold En.life
  rw [hl1]
 rw [hlife]
 have fr : ∀ (P : En → Prop), P T1 → P (T1.setT ⟨id, (k : Int), 2⟩ (S.later n.beat.toNat)) → P (if 0 < n.beat then T1.setT ⟨id, (k : Int), 2⟩ (S.later n.beat.toNat) else T1) := fun P a b => by split <;> assumption
 have hg : ∀ a, T1.getR a = if a = id then some (R.setS k ⟨3, s.tries + 1, S.lastToken + 1⟩) else S.getR a := fun a => by
  rw [hT1, hT]
  exact iI hR a
 have g1 := hg id
 rw [if_pos rfl] at g1
 refine ⟨fr (fun U => U.getR id = _) g1 g1, fr (fun U => ∀ a, a ≠ id → U.getR a = S.getR a) ?_ ?_, fr (fun U => U.runs.map (·.1) = _) ?_ ?_, fr (fun U => U.now = S.now) ?_ ?_, fr (fun U => U.seed = S.seed) ?_ ?_, fr (fun U => U.lastRun = S.lastRun) ?_ ?_, fr (fun U => S.lastToken ≤ U.lastToken ∧ U.lastToken ≤ S.lastToken + 1) ?_ ?_, fr (fun U => U.ends ≤ S.ends + 1) ?_ ?_, fr (fun U => U.sets ≤ S.sets + 2) ?_ ?_, rfl, setS_len, fun j u hj hu => ⟨u, by rw [ic hj]; exact hu, Nx.refl u⟩, hH.set hrun hs (by omega) (by show (2 : Int) ≤ 3 ∧ (3 : Int) ≤ 4; omega), ?_, ?_, ?_⟩
 · exact fun a ha => by rw [hg, if_neg ha]
 · exact fun a ha => (hg a).trans (by rw [if_neg ha])
 · rw [hT1, hT]; exact setR_keys
 · show T1.runs.map (·.1) = _
   rw [hT1, hT]; exact setR_keys
 · rw [hT1, hT]; rfl
 · show T1.now = _
   rw [hT1, hT]; rfl
 · rw [hT1, hT]; rfl
 · show T1.seed = _
   rw [hT1, hT]; rfl
 · rw [hT1, hT]; rfl
 · show T1.lastRun = _
   rw [hT1, hT]; rfl
 · have : T1.lastToken = S.lastToken + 1 := by rw [hT1, hT]; rfl
   omega
 · have : T1.lastToken = S.lastToken + 1 := by rw [hT1, hT]; rfl
   show _ ≤ T1.lastToken ∧ T1.lastToken ≤ _
   omega
 · have : T1.ends = S.ends := by rw [hT1, hT]; rfl
   omega
 · have : T1.ends = S.ends := by rw [hT1, hT]; rfl
   show T1.ends ≤ _
   omega
 · have : T1.sets = S.sets + 1 := by rw [hT1, hT]; rfl
   omega
 · have : T1.sets = S.sets + 1 := by rw [hT1, hT]; rfl
   show T1.sets + 1 ≤ _
   omega
 · intro x hx
   unfold kM
   have h1 : x ∈ T1.tms → x ∈ S.tms ∨ x = (⟨id, (k : Int), 1⟩, S.later n.close.toNat) := fun hx => by
    rw [hT1] at hx
    rcases nt hx with ⟨h, _⟩ | h
    · rw [hTt] at h; exact .inl h
    · exact .inr h
   split at hx
   · rename_i hb
     rw [if_pos hb]
     rcases nt hx with ⟨hx, _⟩ | rfl
     · rcases h1 hx with h | h
       · exact .inl h
       · rw [h]; exact .inr (List.mem_cons_self)
     · exact .inr (by simp)
   · rcases h1 hx with h | h
     · exact .inl h
     · rw [h]; exact .inr (List.mem_cons_self)
 · intro _ x hx hno
   have h1 : x ∈ T1.tms := by rw [hT1]; exact jV (by rw [hTt]; exact hx) (hno 1)
   split
   · exact jV h1 (hno 2)
   · exact h1
 · intro _ x hx
   unfold kM at hx
   have h1 : ((⟨id, (k : Int), 1⟩ : Pl), S.later n.close.toNat) ∈ T1.tms := by rw [hT1]; exact nq
   split
   · rename_i hb
     rw [if_pos hb] at hx
     rcases List.mem_cons.1 hx with rfl | hx
     · refine jV h1 ?_
       simp
     · rw [List.mem_singleton] at hx
       subst hx
       exact nq
   · rename_i hb
     rw [if_neg hb, List.mem_singleton] at hx
     subst hx
     exact h1
theorem rr {S : En} {id k : Nat} {R : Rn} {s : Sp} (hR : S.getR id = some R) (hs : R.steps[k]? = some s) (hrun : R.state = 1) (h4 : s.state = 4) (hH : Hon R) : Mv id k S (S.ready id k) R (R.setS k { s with state := 2 }) [] := by
 obtain ⟨h1, h2⟩ := gQ hR hs
 refine ⟨?_, h1.others, h1.keys, h1.now, h1.seed, h1.lastRun, by rw [h1.lastToken]; omega, by rw [h2.ends]; omega, by rw [h2.sets]; omega, rfl, setS_len, fun j u hj hu => ⟨u, by rw [ic hj]; exact hu, Nx.refl u⟩, hH.set hrun hs (by omega) (by show (2 : Int) ≤ 2 ∧ (2 : Int) ≤ 4; omega), fun x hx => .inl (by rw [← h2.tms]; exact hx), fun _ x hx _ => by rw [h2.tms]; exact hx, fun _ x hx => by cases hx⟩
 rw [gR hR hs]
 exact cg hR
structure Part (id k : Nat) (S D : En) (A : Rn) : Prop where
 get : D.getR id = some A
 fr : Fr id S D
 ends : D.ends = S.ends
 sets : D.sets = S.sets
 tms : ∀ x ∈ D.tms, x ∈ S.tms
 keep : ∀ x ∈ S.tms, (∀ w, x.1 ≠ ⟨id, (k : Int), w⟩) → x ∈ D.tms
theorem ql {S : En} {id k : Nat} {R A : Rn} {s : Sp} (hR : S.getR id = some R) (hs : R.steps[k]? = some s) : Part id k S ((S.leave id k).setR id A) A := by
 rw [dm hR hs]
 have e : ((({ S with tasks := S.tasks.eraseP (·.1 == s.token) }.setR id (R.setS k { s with token := 0 })).unset ⟨id, (k : Int), 1⟩).unset ⟨id, (k : Int), 2⟩).setR id A = { S.setR id A with tasks := S.tasks.eraseP (·.1 == s.token), tms := (S.tms.filter fun x => x.1 != ⟨id, (k : Int), 1⟩).filter fun x => x.1 != ⟨id, (k : Int), 2⟩ } := by
  show ((({ S with tasks := S.tasks.eraseP (·.1 == s.token) }.setR id (R.setS k { s with token := 0 })).setR id A).unset _).unset _ = _
  rw [dX]
  rfl
 rw [e]
 refine ⟨cg hR, ⟨fun a ha => dM ha, setR_keys, rfl, rfl, rfl, rfl⟩, rfl, rfl, fun x hx => ?_, fun x hx hno => ?_⟩
 · exact (List.mem_filter.1 (List.mem_filter.1 hx).1).1
 · exact List.mem_filter.2 ⟨List.mem_filter.2 ⟨hx, by simpa using hno 1⟩, by simpa using hno 2⟩
theorem Ok.rests_mv {S : En} (h : Ok S) {id k : Nat} {R : Rn} {s : Sp} (hR : S.getR id = some R) (hs : R.steps[k]? = some s) (h3 : s.state = 3) (wait : Nat) (hH : Hon R) : Mv id k S (S.rests id k R s wait) R (R.setS k ⟨4, s.tries, 0⟩) [(⟨id, (k : Int), 1⟩, S.later wait)] := by
 have hrun := h.running hR hs (by omega)
 have hp := ql (A := R.turned k s 4) hR hs
 have hl : (S.leave id k).later wait = S.later wait := by rw [dm hR hs]; rfl
 unfold En.rests
 rw [hl]
 rw [fB] at hp ⊢
 refine ⟨hp.get, hp.fr.others, hp.fr.keys, hp.fr.now, hp.fr.seed, hp.fr.lastRun, ⟨Nat.le_of_eq hp.fr.lastToken.symm, Nat.le_trans (Nat.le_of_eq hp.fr.lastToken) (Nat.le_succ _)⟩, Nat.le_trans (Nat.le_of_eq hp.ends) (Nat.le_succ _), Nat.le_trans (Nat.succ_le_succ (Nat.le_of_eq hp.sets)) (Nat.le_succ _), rfl, setS_len, fun j u hj hu => ⟨u, by rw [ic hj]; exact hu, Nx.refl u⟩, hH.set hrun hs (by omega) (by show (2 : Int) ≤ 4 ∧ (4 : Int) ≤ 4; omega), fun x hx => ?_, fun _ x hx hno => jV (hp.keep x hx hno) (hno 1), fun _ x hx => ?_⟩
 · rcases nt hx with ⟨hx, _⟩ | rfl
   · exact .inl (hp.tms x hx)
   · exact .inr (List.mem_singleton.2 rfl)
 · rw [List.mem_singleton] at hx
   subst hx
   exact nq
theorem Settled.mv {id k : Nat} {S D W U : En} {R A B R' : Rn} (hp : Part id k S D A) (hfr : Fr id D W) (hwt : W.tms = D.tms) (hwe : W.ends = D.ends) (hws : W.sets = D.sets) (hs : Settled id W U B R') (hfl : B.fl = R.fl) (hlen : B.steps.length = R.steps.length) (hst : ∀ (j : Nat) (s : Sp), j ≠ k → R.steps[j]? = some s → ∃ s', B.steps[j]? = some s' ∧ Nx s s') : Mv id k S U R R' [] := by
 have hf := (hp.fr.trans hfr).trans hs.fr
 refine ⟨hs.get, hf.others, hf.keys, hf.now, hf.seed, hf.lastRun, by rw [hf.lastToken]; omega, by have := hs.ends; rw [hwe, hp.ends] at this; exact this, by rw [hs.sets, hws, hp.sets]; omega, hs.fl.trans hfl, hs.len.trans hlen, fun j s hj hsj => ?_, hs.hon, fun x hx => .inl (hp.tms x (by rw [← hwt]; exact hs.tms x hx)), fun e x hx hno => ?_, fun _ x hx => by cases hx⟩
 · obtain ⟨s1, h1, n1⟩ := hst j s hj hsj
   obtain ⟨s2, h2, n2, _⟩ := hs.steps j s1 h1
   exact ⟨s2, h2, n1.trans n2⟩
 · rw [(hs.stay e).1, hwt]
   exact hp.keep x hx hno
theorem Ok.complete_mv {S : En} (h : Ok S) {t id k : Nat} {R : Rn} {s : Sp} (ht : (S.tasks.find? (·.1 == t)).map (·.2) = some ⟨id, (k : Int), 0⟩) (hR : S.getR id = some R) (hs : R.steps[k]? = some s) (h3 : s.state = 3) (hH : Hon R) : ∃ R', Mv id k S (S.complete t) R R' [] ∧ ∃ s', R'.steps[k]? = some s' ∧ s'.state = 5 ∧ s'.tries = s.tries := by
 have hrun := h.running hR hs (by omega)
 obtain ⟨n, hn, -⟩ := h.node hR hs
 have hl := (h.run id R hR).len
 rw [mG ht hR hs]
 have hp := ql (A := R.turned k s 5) hR hs
 have hok : Ok ((S.leave id k).setR id (R.turned k s 5)) := (h.part hR hs hn h3 (st := 5) (.inl rfl))
 have hok2 := hok.wake id
 have hak := vZ hs 5
 have hal : (R.turned k s 5).steps.length = (R.turned k s 5).fl.nodes.length := by rw [fB]; exact setS_len.trans hl
 obtain ⟨w1, w2, w3, -⟩ := va hp.get hal
 obtain ⟨A, hA⟩ : ∃ A, A = R.turned k s 5 := ⟨_, rfl⟩
 have hAe : A = R.setS k ⟨5, s.tries, 0⟩ := by rw [hA, fB]
 rw [← hA] at hp hak hal w1 w2 w3
 have h0 : Hon0 (cX A A.steps.length) := by
  refine Hon0.wake hal (fun j u hj hr => ?_) fun j u hj h1 v hv => ?_
  · rw [hAe] at hj ⊢
    refine yW hs (fun _ => rfl) ?_
    rcases dr hj with ⟨rfl, rfl⟩ | ⟨_, hj⟩
    · exact hH.h0.up _ s hs (by omega)
    · exact hH.h0.up j u hj hr
  · rw [hAe] at hj hv ⊢
    rcases dr hj with ⟨rfl, rfl⟩ | ⟨_, hj⟩
    · replace h1 : (5 : Int) = 1 := h1
      omega
    · have := hH.h0.sk hrun j u hj h1 v hv
      rw [jM hs (fun _ => by show (5 : Int) = 6 ↔ _; omega), jM hs (fun _ => by show (5 : Int) = 7 ↔ _; omega)]
      exact this
 have hArun : (cX A A.steps.length).state = 1 := by rw [hAe]; exact hrun
 rw [← hA] at hok2 ⊢
 obtain ⟨R', hset⟩ := hok2.settled w1 hArun h0
 refine ⟨R', Settled.mv (B := cX A A.steps.length) hp w2 w3.tms w3.ends w3.sets hset (by rw [hAe]; rfl) (by rw [dq, hAe, setS_len]) fun j u hj hu => ?_, ?_⟩
 · refine yJ ?_
   rw [hAe, ic hj]
   exact hu
 · have hk1 := dQ (n := A.steps.length) hak
   have hf : cZ A k = false := by
    cases hf : cZ A k with
    | false => rfl
    | true =>
     have := nA hak hf
     replace this : (5 : Int) = 1 := this
     omega
   rw [hf] at hk1
   simp only [Bool.false_eq_true, and_false, if_false] at hk1
   obtain ⟨s', g1, g2, g3⟩ := hset.steps k _ hk1
   exact ⟨s', g1, g3, g2.tries⟩
theorem Am {f : Flow} (hf : Fit f) : ∃ T, Ordering f.nodes 0 T := by
 have key : ∀ (m left : Nat) (told : List Nat), Ordering f.nodes left told → f.nodes.length - told.length ≤ m → ∃ T, Ordering f.nodes 0 T := by
  intro m
  induction m with
  | zero =>
   intro left told h hm
   refine ⟨told, ?_⟩
   have : left = 0 := Nat.eq_of_testBit_eq fun i => by
    rw [Nat.zero_testBit]
    cases hb : left.testBit i with
    | false => rfl
    | true =>
     obtain ⟨h1, h2⟩ := (h.bits i).1 hb
     have := kW (l := i :: told) (m := List.range f.nodes.length) (List.nodup_cons.2 ⟨h2, h.nodup⟩) (fun x hx => by
      rcases List.mem_cons.1 hx with rfl | hx
      · exact List.mem_range.2 h1
      · exact List.mem_range.2 (h.lt x hx))
     rw [List.length_range] at this
     simp only [List.length_cons] at this
     omega
   rw [this] at h
   exact h
  | succ m ih =>
   intro left told h hm
   by_cases hs : ∀ i, left.testBit i = true → ∃ k ∈ cO f.nodes i, left.testBit k = true
   · have := h.zero hf hs
     rw [this] at h
     exact ⟨told, h⟩
   · have : ∃ i, left.testBit i = true ∧ ∀ k ∈ cO f.nodes i, left.testBit k = false := Classical.byContradiction fun hn => hs fun i hi => Classical.byContradiction fun hk => hn ⟨i, hi, fun k hm => by
      cases hb : left.testBit k with
      | false => rfl
      | true => exact absurd ⟨k, hm, hb⟩ hk⟩
     obtain ⟨i, hi, hno⟩ := this
     refine ih (left ^^^ (1 <<< i)) (told ++ [i]) (h.tell hi hno fun j => ?_) (by simp; omega)
     rw [Nat.testBit_xor, jl]
     by_cases hj : j = i
     · subst hj
       simp [hi]
     · simp [hj]
 exact key _ _ _ (Ordering.start _) (Nat.le_refl _)
theorem Ok.dies_mv {S : En} (h : Ok S) {id k : Nat} {R : Rn} {s : Sp} {n : Node} (hR : S.getR id = some R) (hs : R.steps[k]? = some s) (hn : R.fl.nodes[k]? = some n) (h3 : s.state = 3) (hb : s.tries = n.budget) (hH : Hon R) : ∃ R', Mv id k S (S.dies id k R s (m4 R.fl.nodes)) R R' [] ∧ ∃ s', R'.steps[k]? = some s' ∧ s'.state = 6 ∧ s'.tries = s.tries := by
 have hrun := h.running hR hs (by omega)
 have hro := h.run id R hR
 have hl := hro.len
 obtain ⟨A, hA⟩ : ∃ A, A = R.turned k s 6 := ⟨_, rfl⟩
 have hAe : A = R.setS k ⟨6, s.tries, 0⟩ := by rw [hA, fB]
 obtain ⟨T, hT⟩ : ∃ T, T = m4 R.fl.nodes := ⟨_, rfl⟩
 have hex : ∃ T, Ordering R.fl.nodes 0 T := by
  have := Am hro.fl
  exact this
 have hto : Ordering R.fl.nodes 0 T := by
  rw [hT]
  unfold m4
  rw [dif_pos hex]
  exact hex.choose_spec
 unfold En.dies
 rw [← hT, ← hA]
 have hp := ql (A := (R.turned k s 6).skips T) hR hs
 have hok : Ok ((S.leave id k).setR id ((R.turned k s 6).skips T)) := by
  have h1 := h.part hR hs hn h3 (st := 6) (.inr (.inr ⟨rfl, hb⟩))
  have h2 := Ok.skips (id := id) T h1 (j3 hR hs)
  rw [dX] at h2
  exact h2
 rw [← hA] at hp hok
 have hal : A.steps.length = R.fl.nodes.length := by rw [hAe, setS_len]; exact hl
 have hAfl : A.fl = R.fl := by rw [hAe]; rfl
 have hsk := fun j u hj => kS (ns := R.fl.nodes) (l := A.steps) hal T.length T rfl (hto.beh hro.fl) j u hj
 obtain ⟨B, hB⟩ : ∃ B, B = A.skips T := ⟨_, rfl⟩
 have hBs : B.steps = T.foldl (bS R.fl.nodes) A.steps := by rw [hB]; unfold Rn.skips; rw [hAfl]
 have hBfl : B.fl = R.fl := by rw [hB]; exact hAfl
 have hBlen : B.steps.length = R.steps.length := by rw [hBs, jU, hal, hl]
 rw [← hBs] at hsk
 rw [← hB] at hp hok ⊢
 have hback : ∀ (j : Nat) (u : Sp), B.steps[j]? = some u → ∃ v, A.steps[j]? = some v ∧ ((v.state = 1 ∧ u = { v with state := 7 }) ∨ (u = v ∧ ¬ (v.state = 1 ∧ ∃ y ∈ cO R.fl.nodes j, bR B.steps y 6 = true ∨ bR B.steps y 7 = true))) := fun j u hj => by
  have hlt : j < A.steps.length := by have := (List.getElem?_eq_some_iff.1 hj).1; rw [hBlen] at this; rw [hal, ← hl]; exact this
  have hv : A.steps[j]? = some (A.steps[j]) := List.getElem?_eq_getElem hlt
  refine ⟨_, hv, ?_⟩
  obtain ⟨g1, g2⟩ := hsk j _ hv
  by_cases hc : (A.steps[j]).state = 1 ∧ ∃ y ∈ cO R.fl.nodes j, bR B.steps y 6 = true ∨ bR B.steps y 7 = true
  · have := g1 ⟨hto.full j (by rw [← hal]; exact hlt), hc⟩
    rw [hj] at this
    injection this with this
    exact .inl ⟨hc.1, this⟩
  · have := g2 fun h => hc h.2
    rw [hj] at this
    injection this with this
    exact .inr ⟨this, hc⟩
 have h5 : ∀ u, bR B.steps u 5 = bR R.steps u 5 := fun u => by
  have ha : bR A.steps u 5 = bR R.steps u 5 := by rw [hAe]; exact jM hs fun _ => by show (6 : Int) = 5 ↔ _; omega
  rw [← ha, Bool.eq_iff_iff, isAt_iff, isAt_iff]
  constructor
  · rintro ⟨x, hx, e⟩
    obtain ⟨v, hv, ⟨_, rfl⟩ | ⟨rfl, _⟩⟩ := hback u x hx
    · replace e : (7 : Int) = 5 := e
      omega
    · exact ⟨_, hv, e⟩
  · rintro ⟨x, hx, e⟩
    exact ⟨x, (hsk u x hx).2 (fun h => by omega), e⟩
 have hup : ∀ j, im B j ↔ im R j := fun j => by
  unfold im
  rw [hBfl]
  simp only [h5]
 have h0 : Hon0 B := by
  refine ⟨fun j u hj hr => ?_, fun _ j u hj h1 => ?_, fun _ j u hj h1 v hv => ?_⟩
  · rw [hup]
    obtain ⟨v, hv, ⟨_, rfl⟩ | ⟨rfl, _⟩⟩ := hback j u hj
    · have : (2 : Int) ≤ 7 ∧ (7 : Int) ≤ 6 := hr
      omega
    · rw [hAe] at hv
      rcases dr hv with ⟨rfl, rfl⟩ | ⟨_, hv⟩
      · exact hH.h0.up _ s hs (by omega)
      · exact hH.h0.up j _ hv hr
  · rw [hup]
    obtain ⟨v, hv, ⟨_, rfl⟩ | ⟨rfl, _⟩⟩ := hback j u hj
    · replace h1 : (7 : Int) = 1 := h1
      omega
    · rw [hAe] at hv
      rcases dr hv with ⟨rfl, rfl⟩ | ⟨_, hv⟩
      · replace h1 : (6 : Int) = 1 := h1
        omega
      · exact hH.h0.wt hrun j _ hv h1
  · obtain ⟨x, hx, ⟨_, rfl⟩ | ⟨rfl, hc⟩⟩ := hback j u hj
    · replace h1 : (7 : Int) = 1 := h1
      omega
    · rw [hBfl] at hv
      constructor
      · cases hi : bR B.steps v 6 with
        | false => rfl
        | true => exact absurd ⟨h1, v, hv, .inl hi⟩ hc
      · cases hi : bR B.steps v 7 with
        | false => rfl
        | true => exact absurd ⟨h1, v, hv, .inr hi⟩ hc
 have hBrun : B.state = 1 := by rw [hB, hAe]; exact hrun
 obtain ⟨R', hset⟩ := hok.settled hp.get hBrun h0
 refine ⟨R', Settled.mv hp (Fr.refl _ _) rfl rfl rfl hset hBfl hBlen fun j u hj hu => ?_, ?_⟩
 · have hu' : A.steps[j]? = some u := by rw [hAe, ic hj]; exact hu
   obtain ⟨g1, g2⟩ := hsk j u hu'
   by_cases hc : u.state = 1 ∧ ∃ y ∈ cO R.fl.nodes j, bR B.steps y 6 = true ∨ bR B.steps y 7 = true
   · exact ⟨_, g1 ⟨hto.full j (by rw [← hal]; exact (List.getElem?_eq_some_iff.1 hu').1), hc⟩, Nx.skip hc.1⟩
   · exact ⟨_, g2 fun h => hc h.2, Nx.refl u⟩
 · have hk' : A.steps[k]? = some ⟨6, s.tries, 0⟩ := by rw [hAe]; exact cd hs
   have hkB : B.steps[k]? = some ⟨6, s.tries, 0⟩ := (hsk k _ hk').2 fun h => by
    have := h.2.1
    replace this : (6 : Int) = 1 := this
    omega
   obtain ⟨s', g1, g2, g3⟩ := hset.steps k _ hkB
   exact ⟨s', g1, g3, g2.tries⟩
end FK

namespace FK
structure Lone (id : Nat) (F : Flow) (S : En) (R : Rn) : Prop where
 ok : Ok S
 get : S.getR id = some R
 fl : R.fl = F
 seed : S.seed = 0
 alone : ∀ a A, a ≠ id → S.getR a = some A → A.state ≠ 1
 hon : Hon R
 due : ∀ x ∈ S.tms, S.now ≤ x.2
structure Wt (R R' : Rn) : Prop where
 len : R'.steps.length = R.steps.length
 tr : ∀ (k : Nat) (s s' : Sp), R.steps[k]? = some s → R'.steps[k]? = some s' → s.tries ≤ s'.tries ∧ (over s = true → s'.state = s.state)
 st : R.state ≠ 1 → R'.state = R.state
theorem Wt.refl (R : Rn) : Wt R R := ⟨rfl, fun k s s' h h' => by rw [h] at h'; injection h' with h'; subst h'; exact ⟨Int.le_refl _, fun _ => rfl⟩, fun _ => rfl⟩
theorem Wt.trans {A B C : Rn} (h : Wt A B) (k : Wt B C) : Wt A C := ⟨k.len.trans h.len, fun j s s' hs hs' => by
 have hlt : j < B.steps.length := by rw [h.len]; exact (List.getElem?_eq_some_iff.1 hs).1
 have hb : B.steps[j]? = some (B.steps[j]) := List.getElem?_eq_getElem hlt
 obtain ⟨a1, a2⟩ := h.tr j s _ hs hb
 obtain ⟨b1, b2⟩ := k.tr j _ s' hb hs'
 refine ⟨Int.le_trans a1 b1, fun ho => ?_⟩
 have e := a2 ho
 rw [← e]
 exact b2 (by rw [over_iff] at ho ⊢; omega), fun hr => by
 have := h.st hr
 rw [← this]
 exact k.st (by rw [this]; exact hr)⟩
def BC (id : Nat) (S : En) (R : Rn) (rd : Nat → Nat) : Prop := ∀ (k : Nat) (s : Sp), R.steps[k]? = some s → (s.state = 1 ∨ s.state = 2 ∨ s.state = 3 → rd k ≤ S.now) ∧ (s.state = 4 → ∀ a, ((⟨id, (k : Int), 1⟩ : Pl), a) ∈ S.tms → rd k ≤ a)
structure Hd where
 node : Nat
 tri : Int
 tok : Nat
structure Tsk (S : En) (R : Rn) (ts : List Hd) : Prop where
 nd : (ts.map (·.tok)).Nodup
 low : ∀ a ∈ ts, 1 ≤ a.tok ∧ a.tok ≤ S.lastToken
 at_ : ∀ a ∈ ts, 1 ≤ a.tri ∧ ∃ s, R.steps[a.node]? = some s ∧ a.tri ≤ s.tries
 inj : ∀ a ∈ ts, ∀ b ∈ ts, a.node = b.node → a.tri = b.tri → a = b
 work : ∀ (k : Nat) (s : Sp), R.steps[k]? = some s → s.state = 3 → ⟨k, s.tries, s.token⟩ ∈ ts
theorem Lone.live {id : Nat} {F : Flow} {S : En} {R : Rn} (h : Lone id F S R) {a k : Nat} {s : Sp} (hs : S.stp a k = some s) (h1 : s.state = 1 ∨ s.state = 2 ∨ s.state = 3 ∨ s.state = 4) : a = id ∧ R.steps[k]? = some s := by
 obtain ⟨A, hA, hs⟩ := ib hs
 have hr := h.ok.running hA hs h1
 have : a = id := Classical.byContradiction fun hn => h.alone a A hn hA hr
 subst this
 rw [h.get] at hA
 injection hA with hA
 subst hA
 exact ⟨rfl, hs⟩
theorem rF {S : En} (h : S.now ≤ 4611686018427387904) (n : Nat) : S.now ≤ S.later n := by unfold En.later; omega
section
variable {id k : Nat} {F : Flow} {S U : En} {R R' : Rn} {new : List KD}
theorem Mv.lone (hm : Mv id k S U R R' new) (hL : Lone id F S R) (hok : Ok U) (hnew : ∀ x ∈ new, S.now ≤ x.2) : Lone id F U R' :=
 ⟨hok, hm.get, hm.fl.trans hL.fl, hm.seed.trans hL.seed, fun a A ha hA => hL.alone a A ha (by rw [← hm.others a ha]; exact hA), hm.hon, fun x hx => by
  rw [hm.now]
  rcases hm.tms x hx with h | h
  · exact hL.due x h
  · exact hnew x h⟩
theorem Mv.wt (hm : Mv id k S U R R' new) (hrun : R.state = 1) (hk : ∀ s s', R.steps[k]? = some s → R'.steps[k]? = some s' → s.tries ≤ s'.tries ∧ (over s = true → s'.state = s.state)) : Wt R R' :=
 ⟨hm.len, fun j s s' hs hs' => by
  by_cases hj : j = k
  · subst hj
    exact hk s s' hs hs'
  · obtain ⟨u, hu, hn⟩ := hm.steps j s hj hs
    rw [hs'] at hu
    injection hu with hu
    subst hu
    exact ⟨Int.le_of_eq hn.tries.symm, hn.ov⟩, fun h => absurd hrun h⟩
theorem Mv.back (hm : Mv id k S U R R' new) {j : Nat} {s' : Sp} (hj : j ≠ k) (hs' : R'.steps[j]? = some s') : ∃ s, R.steps[j]? = some s ∧ Nx s s' := by
 have hlt : j < R.steps.length := by rw [← hm.len]; exact (List.getElem?_eq_some_iff.1 hs').1
 have hs : R.steps[j]? = some (R.steps[j]) := List.getElem?_eq_getElem hlt
 obtain ⟨u, hu, hn⟩ := hm.steps j _ hj hs
 rw [hs'] at hu
 injection hu with hu
 subst hu
 exact ⟨_, hs, hn⟩
theorem Mv.rdy (hm : Mv id k S U R R' new) {rd rd' : Nat → Nat} (hr : BC id S R rd) (hnk : ∀ x ∈ new, ∃ w, x.1 = ⟨id, (k : Int), w⟩) (hne : ∀ j, j ≠ k → rd' j = rd j)
 (hk : ∀ s', R'.steps[k]? = some s' → (s'.state = 1 ∨ s'.state = 2 ∨ s'.state = 3 → rd' k ≤ U.now) ∧ (s'.state = 4 → ∀ a, ((⟨id, (k : Int), 1⟩ : Pl), a) ∈ U.tms → rd' k ≤ a)) : BC id U R' rd' := by
 intro j s' hs'
 by_cases hj : j = k
 · subst hj
   exact hk s' hs'
 · obtain ⟨s, hs, hn⟩ := hm.back hj hs'
   obtain ⟨a1, a2⟩ := hr j s hs
   rw [hne j hj, hm.now]
   refine ⟨fun h => a1 ?_, fun h4 a ha => ?_⟩
   · rcases h with h | h | h
     · exact .inl (hn.w1 h)
     · rcases hn.w2 h with h | h
       · exact .inr (.inl h)
       · exact .inl h
     · have := hn.w3 h
       rw [← this]
       exact .inr (.inr h)
   · rcases hm.tms _ ha with h | h
     · exact a2 (hn.w4 h4) a h
     · obtain ⟨w, e⟩ := hnk _ h
       obtain ⟨_, e, _⟩ := eP e
       exact absurd e hj
theorem Mv.tsk (hm : Mv id k S U R R' new) (hrun : R.state = 1) {ts : List Hd} (hT : Tsk S R ts) (hk : ∀ s s', R.steps[k]? = some s → R'.steps[k]? = some s' → s.tries ≤ s'.tries ∧ (over s = true → s'.state = s.state) ∧ (s'.state = 3 → s' = s)) : Tsk U R' ts := by
 have hw := hm.wt hrun fun s s' h h' => ⟨(hk s s' h h').1, (hk s s' h h').2.1⟩
 refine ⟨hT.nd, fun a ha => ⟨(hT.low a ha).1, Nat.le_trans (hT.low a ha).2 hm.lastToken.1⟩, fun a ha => ?_, hT.inj, fun j s' hs' h3 => ?_⟩
 · obtain ⟨h1, s, hs, h2⟩ := hT.at_ a ha
   have hlt : a.node < R'.steps.length := by rw [hm.len]; exact (List.getElem?_eq_some_iff.1 hs).1
   have hs' : R'.steps[a.node]? = some (R'.steps[a.node]) := List.getElem?_eq_getElem hlt
   exact ⟨h1, _, hs', Int.le_trans h2 (hw.tr _ _ _ hs hs').1⟩
 · by_cases hj : j = k
   · subst hj
     have hlt : j < R.steps.length := by rw [← hm.len]; exact (List.getElem?_eq_some_iff.1 hs').1
     have hs : R.steps[j]? = some (R.steps[j]) := List.getElem?_eq_getElem hlt
     have := (hk _ _ hs hs').2.2 h3
     rw [this] at h3 ⊢
     exact hT.work j _ hs h3
   · obtain ⟨s, hs, hn⟩ := hm.back hj hs'
     have := hn.w3 h3
     rw [this] at h3 ⊢
     exact hT.work j s hs h3
theorem Fin.mv {st : Int} (h : Fin id S U R R' st) (hst : st ≠ 1) (hH : Hon R') : Mv id R.steps.length S U R R' [] :=
 ⟨h.get, h.fr.others, h.fr.keys, h.fr.now, h.fr.seed, h.fr.lastRun, ⟨Nat.le_of_eq h.fr.lastToken.symm, Nat.le_trans (Nat.le_of_eq h.fr.lastToken) (Nat.le_succ _)⟩, Nat.le_of_eq h.ends, Nat.le_trans (Nat.le_of_eq h.sets) (Nat.le_add_right _ _), h.fl, h.len, fun j s _ hs => ⟨_, h.steps j s hs, Nx.ended s⟩, hH, fun x hx => .inl (h.tms x hx), fun e => absurd (h.state.symm.trans e) hst, fun _ x hx => by cases hx⟩
end
structure Go (id : Nat) (F : Flow) (S U : En) (R R' : Rn) : Prop where
 lone : Lone id F U R'
 wt : Wt R R'
 rdy : ∀ rd, BC id S R rd → BC id U R' rd
 tsk : ∀ ts, Tsk S R ts → Tsk U R' ts
 now : S.now ≤ U.now
 keys : U.runs.map (·.1) = S.runs.map (·.1)
 lastRun : U.lastRun = S.lastRun
 lastToken : U.lastToken ≤ S.lastToken
theorem Go.refl {id : Nat} {F : Flow} {S : En} {R : Rn} (h : Lone id F S R) : Go id F S S R R := ⟨h, Wt.refl R, fun _ h => h, fun _ h => h, Nat.le_refl _, rfl, rfl, Nat.le_refl _⟩
theorem Go.trans {id : Nat} {F : Flow} {S T U : En} {R A B : Rn} (h : Go id F S T R A) (k : Go id F T U A B) : Go id F S U R B :=
 ⟨k.lone, h.wt.trans k.wt, fun rd hr => k.rdy rd (h.rdy rd hr), fun ts ht => k.tsk ts (h.tsk ts ht), Nat.le_trans h.now k.now, k.keys.trans h.keys, k.lastRun.trans h.lastRun, Nat.le_trans k.lastToken h.lastToken⟩
theorem Lone.failed {id : Nat} {F : Flow} {S : En} {R : Rn} (hL : Lone id F S R) {k : Nat} {s : Sp} (hs : R.steps[k]? = some s) (h3 : s.state = 3) : ∃ R' s' n, F.nodes[k]? = some n ∧ R'.steps[k]? = some s' ∧ s'.tries = s.tries ∧ (s'.state = 4 ∨ s'.state = 6) ∧ ∃ new, Mv id k S (S.failed id k) R R' new ∧ (∀ x ∈ new, S.now ≤ x.2) ∧ (∀ x ∈ new, ∃ w, x.1 = ⟨id, (k : Int), w⟩) ∧ Ok (S.failed id k) ∧ (s'.state = 4 → R'.state = 1 ∧ R' = R.setS k ⟨4, s.tries, 0⟩ ∧ new = [(⟨id, (k : Int), 1⟩, S.later (eM n.base n.cap n.jitter s.tries 0).toNat)]) ∧ (s'.state = 6 → new = []) := by
 obtain ⟨n, hn, hp⟩ := hL.ok.node hL.get hs
 have hrun := hL.ok.running hL.get hs (by omega)
 have hok := hL.ok.failed hL.get hs h3
 have hn' : F.nodes[k]? = some n := by rw [← hL.fl]; exact hn
 have hf := gG hL.get hs hn
 by_cases hb : s.tries < n.budget
 · rw [if_pos hb] at hf
   rw [hf] at hok ⊢
   refine ⟨R.setS k ⟨4, s.tries, 0⟩, ⟨4, s.tries, 0⟩, n, hn', cd hs, rfl, .inl rfl, _, hL.ok.rests_mv hL.get hs h3 _ hL.hon, fun x hx => ?_, fun x hx => ?_, hok, fun _ => ⟨hrun, rfl, by rw [hL.seed]; rfl⟩, fun e => by replace e : (4 : Int) = 6 := e; omega⟩
   · rw [List.mem_singleton] at hx
     subst hx
     exact rF hL.ok.now _
   · rw [List.mem_singleton] at hx
     subst hx
     exact ⟨_, rfl⟩
 · rw [if_neg hb] at hf
   rw [hf] at hok ⊢
   obtain ⟨R', hm, s', h1, h2, h4⟩ := hL.ok.dies_mv hL.get hs hn h3 (by have := hp.trb; omega) hL.hon
   exact ⟨R', s', n, hn', h1, h4, .inr h2, [], hm, fun x hx => (by cases hx), fun x hx => (by cases hx), hok, fun e => by omega, fun _ => rfl⟩
theorem oy (ba ca ji k : Int) (h1 : 1 ≤ ba) (h2 : ba ≤ ca) : 1 ≤ eM ba ca ji k 0 := by
 unfold eM
 have h0 : (0 : Int) % (ji + 1) = 0 := Int.zero_emod _
 rw [h0]
 split
 · omega
 · split
   · have hp : (1 : Int) ≤ 2 ^ (k.toNat - 1) := by
      have := Nat.one_le_two_pow (n := k.toNat - 1)
      exact_mod_cast this
     have : ba * 1 ≤ ba * 2 ^ (k.toNat - 1) := Int.mul_le_mul_of_nonneg_left hp (by omega)
     omega
   · omega
theorem Lone.due_go {id : Nat} {F : Flow} {S : En} {R : Rn} (hL : Lone id F S R) {x : KD} {tms' : List KD} (hm : IsMin S.tms x tms') : ∃ R', Go id F S ({ S with now := x.2, tms := tms' }.due x.1) R R' := by
 obtain ⟨hok1, hno, R1, hR1, htm⟩ := hL.ok.pop hm
 have hxm := hm.mem
 have hperm := hm.perm
 have hrid : x.1.run = id := Classical.byContradiction fun hn => hL.alone _ R1 hn hR1 htm.1
 have hR1' : R1 = R := by rw [hrid, hL.get] at hR1; injection hR1 with hR1; exact hR1.symm
 subst hR1'
 have hrun := htm.1
 obtain ⟨S1, hS1⟩ : ∃ S1 : En, S1 = { S with now := x.2, tms := tms' } := ⟨_, rfl⟩
 have hL1 : Lone id F S1 R1 := by
  rw [hS1]
  refine ⟨hok1, hL.get, hL.fl, hL.seed, hL.alone, hL.hon, fun y hy => ?_⟩
  exact hm.le y (hperm.mem_iff.2 (.tail _ hy))
 have hrd1 : ∀ rd, BC id S R1 rd → BC id S1 R1 rd := fun rd hr j s hs => by
  obtain ⟨a1, a2⟩ := hr j s hs
  rw [hS1]
  exact ⟨fun h => Nat.le_trans (a1 h) (hL.due x hxm), fun h a ha => a2 h a (hperm.mem_iff.2 (.tail _ ha))⟩
 have hts1 : ∀ ts, Tsk S R1 ts → Tsk S1 R1 ts := fun ts h => by
  rw [hS1]
  exact ⟨h.nd, h.low, h.at_, h.inj, h.work⟩
 have hg0 : Go id F S S1 R1 R1 := ⟨hL1, Wt.refl _, hrd1, hts1, by rw [hS1]; exact hL.due x hxm, by rw [hS1], by rw [hS1], by rw [hS1]; exact Nat.le_refl _⟩
 rw [← hS1] at hok1 ⊢
 have hR1' : S1.getR x.1.run = some R1 := by rw [hrid]; exact hL1.get
 have hokU := hok1.due hR1' htm (by rw [hS1]; exact hno)
 obtain ⟨p, hp⟩ : ∃ p, p = x.1 := ⟨_, rfl⟩
 rw [← hp] at hR1' htm hrid hokU ⊢
 rcases fQ hR1' htm with ⟨_, e⟩ | ⟨k, s, hs, ⟨e1, h4, e⟩ | ⟨_, h3, e⟩⟩
 · rw [e, hrid] at hokU ⊢
   obtain ⟨R', hF⟩ := hok1.fin hL1.get 5
   have hmv := hF.mv (by decide) (hF.hon (by decide) (by decide) hL1.hon hrun)
   have hnone : ∀ {α : Prop} (s : Sp), R1.steps[R1.steps.length]? = some s → α := fun s hs => by
    have := (List.getElem?_eq_some_iff.1 hs).1
    omega
   refine ⟨R', hg0.trans ⟨hmv.lone hL1 hokU (fun x hx => by cases hx), hmv.wt hrun fun s s' h _ => hnone s h, fun rd hr => hmv.rdy hr (fun x hx => by cases hx) (fun _ _ => rfl) fun s' hs' => ?_, fun ts ht => hmv.tsk hrun ht fun s s' h _ => hnone s h, Nat.le_of_eq hmv.now.symm, hmv.keys, hmv.lastRun, Nat.le_of_eq hF.fr.lastToken⟩⟩
   have := (List.getElem?_eq_some_iff.1 hs').1
   rw [hF.len] at this
   omega
 · rw [e, hrid] at hokU ⊢
   have hmv := rr hL1.get hs hrun h4 hL1.hon
   have hk : ∀ u u', R1.steps[k]? = some u → (R1.setS k { s with state := 2 }).steps[k]? = some u' → u = s ∧ u' = { s with state := 2 } := fun u u' h h' => by
    rw [hs] at h
    rw [cd hs] at h'
    injection h with h
    injection h' with h'
    exact ⟨h.symm, h'.symm⟩
   have hnot : ¬ over s = true := by rw [over_iff]; omega
   have hL2 := hmv.lone hL1 hokU (fun x hx => by cases hx)
   refine ⟨_, ⟨hL2, hmv.wt hrun fun u u' h h' => ?_, fun rd hr => hmv.rdy (hrd1 rd hr) (fun x hx => by cases hx) (fun _ _ => rfl) fun u' h' => ?_, fun ts ht => hmv.tsk hrun (hts1 ts ht) fun u u' h h' => ?_, Nat.le_trans hg0.now (Nat.le_of_eq hmv.now.symm), hmv.keys.trans hg0.keys, hmv.lastRun.trans hg0.lastRun, ?_⟩⟩
   · obtain ⟨rfl, rfl⟩ := hk u u' h h'
     exact ⟨Int.le_refl _, fun h => absurd h hnot⟩
   · obtain ⟨_, rfl⟩ := hk s u' hs h'
     refine ⟨fun _ => ?_, fun e => by replace e : (2 : Int) = 4 := e; omega⟩
     rw [hmv.now, hS1]
     have hmem : ((⟨id, (k : Int), 1⟩ : Pl), x.2) ∈ S.tms := by
      rw [← hrid, ← e1, hp]
      exact hxm
     exact (hr k s hs).2 h4 _ hmem
   · obtain ⟨rfl, rfl⟩ := hk u u' h h'
     exact ⟨Int.le_refl _, fun h => absurd h hnot, fun e => by replace e : (2 : Int) = 3 := e; omega⟩
   · have : (S1.ready id k).lastToken = S1.lastToken := (gQ hL1.get hs).1.lastToken
     rw [this]
     exact hg0.lastToken
 · rw [e, hrid] at hokU ⊢
   obtain ⟨R', s', n, hn, hs', ht, hst, new, hmv, hnew, hnk, _, h4, _⟩ := hL1.failed hs h3
   have hnot : ¬ over s = true := by rw [over_iff]; omega
   have hk : ∀ u u', R1.steps[k]? = some u → R'.steps[k]? = some u' → u = s ∧ u' = s' := fun u u' h h' => by
    rw [hs] at h
    rw [hs'] at h'
    injection h with h
    injection h' with h'
    exact ⟨h.symm, h'.symm⟩
   refine ⟨R', hg0.trans ⟨hmv.lone hL1 hokU hnew, hmv.wt hrun fun u u' h h' => ?_, fun rd hr => hmv.rdy hr hnk (fun _ _ => rfl) fun u' h' => ?_, fun ts hT => hmv.tsk hrun hT fun u u' h h' => ?_, Nat.le_of_eq hmv.now.symm, hmv.keys, hmv.lastRun, ?_⟩⟩
   · obtain ⟨rfl, rfl⟩ := hk u u' h h'
     exact ⟨Int.le_of_eq ht.symm, fun h => absurd h hnot⟩
   · obtain ⟨_, rfl⟩ := hk s u' hs h'
     have hle := (hr k s hs).1 (.inr (.inr h3))
     refine ⟨fun e => by omega, fun _ a ha => ?_⟩
     rcases hmv.tms _ ha with h | h
     · exact Nat.le_trans hle (hL1.due _ h)
     · exact Nat.le_trans hle (hnew _ h)
   · obtain ⟨rfl, rfl⟩ := hk u u' h h'
     exact ⟨Int.le_of_eq ht.symm, fun h => absurd h hnot, fun e => by omega⟩
   · have := (hok1.due_less (by rw [hrid]; exact hL1.get) htm).lastToken
     rw [e, hrid] at this
     exact Nat.le_of_eq this
theorem Ticks.go {up : Nat} {S U : En} (h : Ticks up S U) : ∀ {id : Nat} {F : Flow} {R : Rn}, S.now ≤ up → up ≤ 4611686018427387904 → Lone id F S R → ∃ R', Go id F S U R R' ∧ U.now = up ∧ ∀ x ∈ U.tms, up < x.2 := by
 induction h with
 | @done S hd =>
  intro id F R hle hup hL
  refine ⟨R, ⟨⟨hL.ok.times (sets := _) hup hL.ok.knd hL.ok.tms, hL.get, hL.fl, hL.seed, hL.alone, hL.hon, fun x hx => Nat.le_of_lt (hd x hx)⟩, Wt.refl _, fun rd hr j s hs => ⟨fun e => Nat.le_trans ((hr j s hs).1 e) hle, (hr j s hs).2⟩, fun ts ht => ⟨ht.nd, ht.low, ht.at_, ht.inj, ht.work⟩, hle, rfl, rfl, Nat.le_refl _⟩, rfl, hd⟩
 | @step S U x tms' hm hx _ ih =>
  intro id F R hle hup hL
  obtain ⟨R1, hg⟩ := hL.due_go hm
  have hnow : ({ S with now := x.2, tms := tms' }.due x.1).now = x.2 := by
   obtain ⟨hok1, hno, R1, hR1, htm⟩ := hL.ok.pop hm
   exact (hok1.due_less hR1 htm).now
  obtain ⟨R2, hg2, h1, h2⟩ := ih (by rw [hnow]; exact hx) hup hg.lone
  exact ⟨R2, hg.trans hg2, h1, h2⟩
end FK

namespace FK
theorem Ticks.bound {up : Nat} {S U : En} (h : Ticks up S U) (hok : Ok S) : U.sets ≤ S.sets + S.mass ∧ U.ends ≤ S.ends + S.mass ∧ U.lastToken = S.lastToken ∧ U.lastRun = S.lastRun := by
 induction h with
 | done _ => exact ⟨Nat.le_add_right _ _, Nat.le_add_right _ _, rfl, rfl⟩
 | @step S U x tms' hm hx _ ih =>
  obtain ⟨hok1, hno, R1, hR1, htm⟩ := hok.pop hm
  have hl := hok1.due_less hR1 htm
  obtain ⟨a1, a2, a3, a4⟩ := ih (hok1.due hR1 htm hno)
  have h1 : ({ S with now := x.2, tms := tms' }.due x.1).mass < S.mass := hl.mass
  have h2 : ({ S with now := x.2, tms := tms' }.due x.1).sets ≤ S.sets + 1 := hl.sets
  have h3 : ({ S with now := x.2, tms := tms' }.due x.1).ends ≤ S.ends + 1 := hl.ends
  exact ⟨by omega, by omega, a3.trans hl.lastToken, a4.trans hl.lastRun⟩
structure Seen (id : Nat) (F : Flow) (S : En) (R : Rn) (rd : Nat → Nat) (ts : List Hd) : Prop where
 lone : Lone id F S R
 rdy : BC id S R rd
 tsk : Tsk S R ts
structure Few (n : Nat) (S : En) : Prop where
 sets : S.sets ≤ 100 + 200 * n
 ends : S.ends ≤ 100 + 200 * n
 tok : S.lastToken ≤ 100 + n
 run : S.lastRun ≤ 100
 now : S.now ≤ 100 + 100 * n
section
variable {id : Nat} {F : Flow} {S : En} {R : Rn} {rd : Nat → Nat} {ts : List Hd}
theorem Lone.head (h : Lone id F S R) {p : Pl} {q : List Pl} (hq : S.queue = p :: q) : ∃ (k : Nat) (s : Sp) (n : Node), p = ⟨id, (k : Int), 0⟩ ∧ R.steps[k]? = some s ∧ s.state = 2 ∧ F.nodes[k]? = some n ∧ s.tries < n.budget ∧ R.fl.nodes[k]? = some n := by
 obtain ⟨a, k, s, rfl, hs, h2⟩ := (h.ok.queue p).1 (by rw [hq]; exact List.mem_cons_self)
 obtain ⟨rfl, hs⟩ := h.live hs (by omega)
 obtain ⟨n, hn, hp⟩ := h.ok.node h.get hs
 exact ⟨k, s, n, rfl, hs, h2, by rw [← h.fl]; exact hn, hp.low (by omega), hn⟩
end
theorem Seen.begin {S : En} (hok : Ok S) (h5 : S.runs.length ≤ 5) {F : Flow} (hF : Fit F) (hseed : S.seed = 0) (hend : ∀ a A, S.getR a = some A → A.state ≠ 1) : ∃ R, Seen (S.lastRun + 1) F (S.submit F) R (fun _ => 0) [] ∧ R.state = 1 ∧ (∀ (k : Nat) (s : Sp), R.steps[k]? = some s → s.tries = 0 ∧ s.token = 0 ∧ (s.state = 1 ∨ s.state = 2)) ∧ (S.submit F).now = S.now ∧ (S.submit F).tms = [(⟨S.lastRun + 1, -1, 0⟩, S.later F.deadline.toNat)] ∧ (S.submit F).sets = S.sets + 1 ∧ (S.submit F).ends = S.ends ∧ (S.submit F).lastToken = S.lastToken ∧ (S.submit F).lastRun = S.lastRun + 1 := by
 have hokU := hok.submit h5 hF
 have htm : S.tms = [] := by
  cases h : S.tms with
  | nil => rfl
  | cons x l =>
   obtain ⟨_, A, hA, hT⟩ := hok.tms x (by rw [h]; exact List.mem_cons_self)
   exact absurd hT.1 (hend _ A hA)
 obtain ⟨T, hT⟩ : ∃ T, T = (S.begin F).setT ⟨S.lastRun + 1, -1, 0⟩ (S.later F.deadline.toNat) := ⟨_, rfl⟩
 have hget : ∀ a, T.getR a = if a = S.lastRun + 1 then some (Rn.begun F) else S.getR a := fun a => by
  rw [hT]
  exact lU hok F a
 have hg1 := hget (S.lastRun + 1)
 rw [if_pos rfl] at hg1
 have hl : (Rn.begun F).steps.length = (Rn.begun F).fl.nodes.length := by simp [Rn.begun]
 obtain ⟨w1, w2, w3, -⟩ := va hg1 hl
 have hsub : S.submit F = T.wake (S.lastRun + 1) := by rw [hT]; rfl
 rw [hsub] at hokU ⊢
 have hsts : ∀ (k : Nat) (s : Sp), (Rn.begun F).steps[k]? = some s → s = s1 := fun k s hs => nJ hs
 have hst : ∀ (k : Nat) (s : Sp), (cX (Rn.begun F) (Rn.begun F).steps.length).steps[k]? = some s → s = s1 ∨ s = { s1 with state := 2 } := fun k s hs => by
  have hlt : k < (Rn.begun F).steps.length := by have := (List.getElem?_eq_some_iff.1 hs).1; rwa [dq] at this
  have h0 : (Rn.begun F).steps[k]? = some ((Rn.begun F).steps[k]) := List.getElem?_eq_getElem hlt
  have h1 := dQ (n := (Rn.begun F).steps.length) h0
  rw [hs] at h1
  injection h1 with h1
  rw [hsts k _ h0] at h1
  split at h1
  · exact .inr h1
  · exact .inl h1
 have htms : (T.wake (S.lastRun + 1)).tms = [(⟨S.lastRun + 1, -1, 0⟩, S.later F.deadline.toNat)] := by
  rw [w3.tms, hT]
  show (S.tms.filter _) ++ _ = _
  rw [htm]
  rfl
 have hnow : (T.wake (S.lastRun + 1)).now = S.now := by rw [w2.now, hT]; rfl
 have h0 : Hon0 (cX (Rn.begun F) (Rn.begun F).steps.length) := by
  refine Hon0.wake hl (fun k s hs hr => ?_) fun k s hs _ u _ => ?_
  · rw [hsts k s hs] at hr
    have : (2 : Int) ≤ 1 ∧ (1 : Int) ≤ 6 := hr
    omega
  · have : ∀ x, x ≠ 1 → bR (Rn.begun F).steps u x = false := fun x hx => by
     cases h : bR (Rn.begun F).steps u x with
     | false => rfl
     | true =>
      obtain ⟨s, hs, e⟩ := isAt_iff.1 h
      rw [hsts u s hs] at e
      exact absurd e.symm hx
    exact ⟨this 6 (by decide), this 7 (by decide)⟩
 have hrun : (cX (Rn.begun F) (Rn.begun F).steps.length).state = 1 := rfl
 have hlen : 0 < (cX (Rn.begun F) (Rn.begun F).steps.length).steps.length := by
  rw [dq, hl]
  exact hF.head.2.1
 refine ⟨cX (Rn.begun F) (Rn.begun F).steps.length, ⟨⟨hokU, w1, rfl, ?_, fun a A ha hA => ?_, ⟨h0, fun _ => ?_, fun e => by rw [hrun] at e; omega, fun e => absurd hrun e⟩, fun x hx => ?_⟩, fun k s hs => ?_, ?_⟩, hrun, fun k s hs => ?_, hnow, htms, ?_, ?_, ?_, ?_⟩
 · rw [w2.seed, hT]
   exact hseed
 · rw [w2.others a ha, hget, if_neg ha] at hA
   exact hend a A hA
 · have h1 : (cX (Rn.begun F) (Rn.begun F).steps.length).steps[0]? = some _ := List.getElem?_eq_getElem hlen
   refine ⟨0, _, h1, ?_⟩
   rw [kV]
   rcases hst 0 _ h1 with e | e <;> rw [e] <;> decide
 · rw [htms, List.mem_singleton] at hx
   subst hx
   rw [hnow]
   exact rF hok.now _
 · exact ⟨fun _ => Nat.zero_le _, fun _ _ _ => Nat.zero_le _⟩
 · refine ⟨List.nodup_nil, fun a ha => (by cases ha), fun a ha => (by cases ha), fun a ha => (by cases ha), fun k s hs h3 => ?_⟩
   rcases hst k s hs with e | e <;> rw [e] at h3
   · replace h3 : (1 : Int) = 3 := h3
     omega
   · replace h3 : (2 : Int) = 3 := h3
     omega
 · rcases hst k s hs with e | e <;> rw [e]
   · exact ⟨rfl, rfl, .inl rfl⟩
   · exact ⟨rfl, rfl, .inr rfl⟩
 · rw [w3.sets, hT]; rfl
 · rw [w3.ends, hT]; rfl
 · rw [w2.lastToken, hT]; rfl
 · rw [w2.lastRun, hT]; rfl
end FK
