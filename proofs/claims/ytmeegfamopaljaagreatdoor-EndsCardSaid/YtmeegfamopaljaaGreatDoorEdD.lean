/- The engine in plain data: tasks that fail; ticks. -/
import Derived.Test.YtmeegfamopaljaaGreatDoorEdC
import Derived.Test.YtmeegfamopaljaaGreatDoorEdA
namespace FK
def eM (ba ca ji k seed : Int) : Int := (if k ≤ 1 then ba else if k < 22 then min ca (ba * 2 ^ (k.toNat - 1)) else ca) + seed % (ji + 1)
noncomputable def En.failed (S : En) (id k : Nat) : En := match S.getR id with
 | some R => match R.steps[k]?, R.fl.nodes[k]? with
  | some s, some n => if s.tries < n.budget then S.rests id k R s (eM n.base n.cap n.jitter s.tries S.seed).toNat else S.dies id k R s (m4 R.fl.nodes)
  | _, _ => S
 | none => S
noncomputable def En.fail (S : En) (t : Nat) : En := match (S.tasks.find? (·.1 == t)).map (·.2) with
 | some p => S.failed p.run p.node.toNat
 | none => S
theorem gG {S : En} {id k : Nat} {R : Rn} {s : Sp} {n : Node} (hR : S.getR id = some R) (hs : R.steps[k]? = some s) (hn : R.fl.nodes[k]? = some n) : S.failed id k = if s.tries < n.budget then S.rests id k R s (eM n.base n.cap n.jitter s.tries S.seed).toNat else S.dies id k R s (m4 R.fl.nodes) := by
 unfold En.failed
 rw [hR]
 simp only [hs, hn]
theorem Ok.failed {S : En} (h : Ok S) {id k : Nat} {R : Rn} {s : Sp} (hR : S.getR id = some R) (hs : R.steps[k]? = some s) (h3 : s.state = 3) : Ok (S.failed id k) := by
 obtain ⟨n, hn, hp⟩ := h.node hR hs
 rw [gG hR hs hn]
 split
 · rename_i hb
   exact h.rests hR hs hn h3 hb _
 · exact h.dies hR hs hn h3 (by have := hp.trb; omega) _
theorem kO {S : En} {t id k : Nat} {w : Int} (hf : (S.tasks.find? (·.1 == t)).map (·.2) = some ⟨id, (k : Int), w⟩) : S.fail t = S.failed id k := by
 unfold En.fail
 rw [hf]
 rfl
theorem Ok.fail {S : En} (h : Ok S) (t : Nat) : Ok (S.fail t) := by
 cases hf : (S.tasks.find? (·.1 == t)).map (·.2) with
 | none => unfold En.fail; rw [hf]; exact h
 | some p =>
  obtain ⟨id, k, R, s, n, rfl, hR, hs, hn, h3, _⟩ := h.find hf
  rw [kO hf]
  exact h.failed hR hs h3
theorem Bd {S : En} (h : Ok S) {id k : Nat} {R : Rn} {s : Sp} (hR : S.getR id = some R) {left : Nat} {T : List Nat} (ho : Ordering R.fl.nodes left T) (hs : ∀ i, left.testBit i = true → ∃ j ∈ cO R.fl.nodes i, left.testBit j = true) : S.dies id k R s T = S.dies id k R s (m4 R.fl.nodes) := by
 have hr := h.run id R hR
 unfold En.dies Rn.skips
 have : T.foldl (bS (R.turned k s 6).fl.nodes) (R.turned k s 6).steps = (m4 R.fl.nodes).foldl (bS (R.turned k s 6).fl.nodes) (R.turned k s 6).steps := An hr.fl ho hs _ (by simpa [Rn.turned, Rn.setS] using hr.len)
 rw [this]
noncomputable def En.due (S : En) (p : Pl) : En := if p.what = 0 then S.finish p.run 5 else match S.stp p.run p.node.toNat with
 | some s => if s.state = 4 then S.ready p.run p.node.toNat else S.failed p.run p.node.toNat
 | none => S
inductive Ticks (up : Nat) : En → En → Prop where
 | done {S : En} : (∀ y ∈ S.tms, up < y.2) → Ticks up S { S with now := up }
 | step {S U : En} {x : KD} {tms' : List KD} : IsMin S.tms x tms' → x.2 ≤ up → Ticks up ({ S with now := x.2, tms := tms' }.due x.1) U → Ticks up S U
theorem Ticks.unique {up : Nat} {S A B : En} (h : Ticks up S A) : Ticks up S B → A = B := by
 induction h with
 | done h =>
  intro k
  cases k with
  | done _ => rfl
  | step hm hx _ =>
   have := h _ hm.mem
   omega
 | step hm hx _ ih =>
  intro k
  cases k with
  | done h =>
   have := h _ hm.mem
   omega
  | step hm' _ k =>
   obtain ⟨rfl, rfl⟩ := hm.unique hm'
   exact ih k
theorem Ok.pop {S : En} (h : Ok S) {x : KD} {tms' : List KD} (hm : IsMin S.tms x tms') : Ok { S with now := x.2, tms := tms' } ∧ (∀ y ∈ tms', y.1 ≠ x.1) ∧ ∃ R, S.getR x.1.run = some R ∧ vS R x.1 := by
 have hp := hm.perm
 have hx := h.tms x hm.mem
 have hk := h.knd
 have hk' : ((x :: tms').map (·.1)).Nodup := (hp.map (·.1)).nodup_iff.1 hk
 rw [List.map_cons, List.nodup_cons] at hk'
 refine ⟨h.times (sets := S.sets) hx.1 hk'.2 fun y hy => h.tms y (hp.mem_iff.2 (.tail _ hy)), fun y hy e => hk'.1 (by rw [← e]; exact List.mem_map_of_mem (f := (·.1)) hy), hx.2⟩
theorem fQ {S : En} {p : Pl} {R : Rn} (hR : S.getR p.run = some R) (ht : vS R p) : (p = ⟨p.run, -1, 0⟩ ∧ S.due p = S.finish p.run 5) ∨ ∃ (k : Nat) (s : Sp), R.steps[k]? = some s ∧ ((p = ⟨p.run, (k : Int), 1⟩ ∧ s.state = 4 ∧ S.due p = S.ready p.run k) ∨ ((p = ⟨p.run, (k : Int), 1⟩ ∨ p = ⟨p.run, (k : Int), 2⟩) ∧ s.state = 3 ∧ S.due p = S.failed p.run k)) := by
 obtain ⟨id, nd, wh⟩ := p
 obtain ⟨_, ⟨h1, h2⟩ | ⟨k, s, h1, h2, h3⟩⟩ := ht
 · simp only at h1 h2
   subst h1; subst h2
   exact .inl ⟨rfl, by unfold En.due; rfl⟩
 · simp only at h1 h2 h3 hR
   subst h1
   have hst := eY hR h2
   refine .inr ⟨k, s, h2, ?_⟩
   have hd : wh ≠ 0 → En.due S ⟨id, (k : Int), wh⟩ = if s.state = 4 then S.ready id k else S.failed id k := fun hw => by
    unfold En.due
    simp only [Int.toNat_natCast, hst]
    rw [if_neg hw]
   rcases h3 with ⟨rfl, h4⟩ | ⟨rfl, h4⟩
   · rcases h4 with h4 | h4
     · exact .inr ⟨.inl rfl, h4, by rw [hd (by decide), if_neg (by omega)]⟩
     · exact .inl ⟨rfl, h4, by rw [hd (by decide), if_pos h4]⟩
   · exact .inr ⟨.inr rfl, h4, by rw [hd (by decide), if_neg (by omega)]⟩
theorem Ok.due {S : En} (h : Ok S) {p : Pl} {R : Rn} (hR : S.getR p.run = some R) (ht : vS R p) (hno : ∀ y ∈ S.tms, y.1 ≠ p) : Ok (S.due p) := by
 rcases fQ hR ht with ⟨_, e⟩ | ⟨k, s, hs, ⟨e1, h4, e⟩ | ⟨_, h3, e⟩⟩
 · rw [e]
   exact h.finish hR (by decide)
 · rw [e]
   exact h.ready hR hs (.inr ⟨h4, fun y hy e' => hno y hy (by rw [e', e1])⟩)
 · rw [e]
   exact h.failed hR hs h3
theorem Ticks.ok {up : Nat} {S U : En} (h : Ticks up S U) (hup : up ≤ 4611686018427387904) : Ok S → Ok U := by
 induction h with
 | done _ => exact fun h => h.times (sets := _) hup h.knd h.tms
 | step hm hx _ ih =>
  intro h
  obtain ⟨h1, h2, R, hR, ht⟩ := h.pop hm
  exact ih (h1.due hR ht h2)
def l6 (s : Sp) : Nat := if s.state = 3 then 2 else if s.state = 4 then 1 else 0
def ow (R : Rn) : Nat := if R.state = 1 then 1 + (R.steps.map l6).sum else 0
def wor : Option Rn → Nat
 | some R => ow R
 | none => 0
def En.mass (S : En) : Nat := ((S.runs.map (·.1)).map fun id => wor (S.getR id)).sum
theorem BQ {l : List Nat} {f g : Nat → Nat} (h : ∀ a ∈ l, f a ≤ g a) : (l.map f).sum ≤ (l.map g).sum := by
 induction l with
 | nil => exact Nat.le_refl _
 | cons x l ih =>
  have h1 := h x (.head _)
  have h2 := ih fun a ha => h a (.tail _ ha)
  simp only [List.map_cons, List.sum_cons]
  omega
theorem BP {l : List Nat} {f g : Nat → Nat} (h : ∀ a ∈ l, f a ≤ g a) {i : Nat} (hi : i ∈ l) (hlt : f i < g i) : (l.map f).sum < (l.map g).sum := by
 induction l with
 | nil => cases hi
 | cons x l ih =>
  have h1 := h x (.head _)
  simp only [List.map_cons, List.sum_cons]
  rcases List.mem_cons.1 hi with rfl | hi
  · have h2 := BQ fun a ha => h a (.tail _ ha)
    omega
  · have h2 := ih (fun a ha => h a (.tail _ ha)) hi
    omega
theorem mV {S U : En} (hk : U.runs.map (·.1) = S.runs.map (·.1)) {id : Nat} {R R' : Rn} (hR : S.getR id = some R) (hR' : U.getR id = some R') (ho : ∀ a, a ≠ id → U.getR a = S.getR a) (hlt : ow R' < ow R) : U.mass < S.mass := by
 unfold En.mass
 rw [hk]
 refine BP (i := id) (fun a _ => ?_) (List.mem_map_of_mem (f := (·.1)) (iQ hR)) ?_
 · by_cases ha : a = id
   · subst ha
     rw [hR, hR']
     exact Nat.le_of_lt hlt
   · rw [ho a ha]
     exact Nat.le_refl _
 · show wor (U.getR id) < wor (S.getR id)
   rw [hR, hR']
   exact hlt
theorem qg : ∀ {l : List Sp} {k : Nat} {s s' : Sp}, l[k]? = some s → ((l.set k s').map l6).sum + l6 s = (l.map l6).sum + l6 s'
 | [], _, _, _, h => by simp at h
 | x :: l, 0, s, s', h => by
  simp at h
  subst h
  simp only [List.set_cons_zero, List.map_cons, List.sum_cons]
  omega
 | x :: l, k + 1, s, s', h => by
  have := qg (l := l) (k := k) (s := s) (s' := s') (by simpa using h)
  simp only [List.set_cons_succ, List.map_cons, List.sum_cons]
  omega
theorem wg (ns : List Node) (l : List Sp) (k : Nat) : ((bS ns l k).map l6).sum = (l.map l6).sum := by
 unfold bS
 split
 · rename_i s n hs hn
   split
   · rename_i hc
     have := qg (s' := { s with state := 7 }) hs
     have h1 : l6 s = 0 := by unfold l6; rw [hc.1]; rfl
     have h2 : l6 { s with state := 7 } = 0 := rfl
     omega
   · rfl
 · rfl
theorem pg (ns : List Node) : ∀ (T : List Nat) (l : List Sp), ((T.foldl (bS ns) l).map l6).sum = (l.map l6).sum
 | [], _ => rfl
 | k :: T, l => by rw [List.foldl_cons, pg ns T, wg]
theorem BF (s : Sp) : l6 s ≤ 2 := by unfold l6; split <;> (try split) <;> omega
theorem qh {α : Type} {f : α → Nat} {n : Nat} (h : ∀ a, f a ≤ n) : ∀ l : List α, (l.map f).sum ≤ l.length * n
 | [] => by simp
 | x :: l => by
  have := qh h l
  have := h x
  simp only [List.map_cons, List.sum_cons, List.length_cons, Nat.succ_mul]
  omega
theorem Ok.massLe {S : En} (h : Ok S) : S.mass ≤ 150 := by
 have hw : ∀ a, wor (S.getR a) ≤ 25 := fun a => by
  cases hR : S.getR a with
  | none => exact Nat.zero_le _
  | some R =>
   show ow R ≤ 25
   have hr := h.run a R hR
   have := qh BF R.steps
   have := hr.len
   have := hr.fl.head.2.2
   unfold ow
   split <;> omega
 have := qh hw (S.runs.map (·.1))
 have h6 := h.six
 rw [List.length_map] at this
 unfold En.mass
 omega
theorem qD {S : En} {id : Nat} {R : Rn} (hR : S.getR id = some R) : S.settle id = S ∨ ∃ st, (st = 2 ∨ st = 3) ∧ S.settle id = S.finish id st := by
 unfold En.settle
 rw [hR]
 simp only
 split
 · refine .inr ⟨_, ?_, rfl⟩
   split
   · exact .inl rfl
   · exact .inr rfl
 · exact .inl rfl
structure Less (S U : En) : Prop where
 mass : U.mass < S.mass
 sets : U.sets ≤ S.sets + 1
 ends : U.ends ≤ S.ends + 1
 lastRun : U.lastRun = S.lastRun
 lastToken : U.lastToken = S.lastToken
 now : U.now = S.now
 seed : U.seed = S.seed
theorem Ok.finish_less {S : En} (h : Ok S) {id : Nat} {R : Rn} (hR : S.getR id = some R) (hr : R.state = 1) {st : Int} (hst : st ≠ 1) : Less S (S.finish id st) := by
 have he := h.ended hR st
 obtain ⟨R', g1, g2, g3, g4, g5, g6⟩ := he.run
 refine ⟨mV he.keys hR g1 he.others ?_, by rw [he.sets]; omega, by rw [he.ends]; exact Nat.le_refl _, he.lastRun, he.lastToken, he.now, he.seed⟩
 have h1 : ow R' = 0 := by unfold ow; rw [g3, if_neg hst]
 have h2 : 1 ≤ ow R := by unfold ow; rw [if_pos hr]; omega
 omega
theorem qe {R : Rn} {k : Nat} {s s' : Sp} (hs : R.steps[k]? = some s) (hr : R.state = 1) (hlt : l6 s' < l6 s) : ow (R.setS k s') < ow R := by
 have := qg (s' := s') hs
 have h1 : ow (R.setS k s') = 1 + ((R.steps.set k s').map l6).sum := by unfold ow; exact if_pos hr
 have h2 : ow R = 1 + (R.steps.map l6).sum := by unfold ow; rw [if_pos hr]
 omega
theorem Ok.due_less {S : En} (h : Ok S) {p : Pl} {R : Rn} (hR : S.getR p.run = some R) (ht : vS R p) : Less S (S.due p) := by
 have hrun := ht.1
 rcases fQ hR ht with ⟨_, e⟩ | ⟨k, s, hs, ⟨e1, h4, e⟩ | ⟨_, h3, e⟩⟩
 · rw [e]
   exact h.finish_less hR hrun (by decide)
 · rw [e, gR hR hs]
   refine ⟨mV (U := { S.setR p.run (R.setS k { s with state := 2 }) with queue := _ }) setR_keys hR (cg hR) (fun a ha => dM ha) (qe hs hrun ?_), Nat.le_succ _, Nat.le_succ _, rfl, rfl, rfl, rfl⟩
   have h5 : l6 s = 1 := by unfold l6; rw [h4]; rfl
   rw [h5]
   show 0 < 1
   decide
 · rw [e]
   obtain ⟨n, hn, hp⟩ := h.node hR hs
   rw [gG hR hs hn]
   obtain ⟨id, hid⟩ : ∃ id, id = p.run := ⟨_, rfl⟩
   rw [← hid] at hR ⊢
   have hleave : ∀ (st : Int), (S.leave id k).setR id (R.turned k s st) = { S.setR id (R.setS k ⟨st, s.tries, 0⟩) with tasks := S.tasks.eraseP (·.1 == s.token), tms := (S.tms.filter fun x => x.1 != ⟨id, (k : Int), 1⟩).filter fun x => x.1 != ⟨id, (k : Int), 2⟩ } := fun st => qk hR hs
   split
   · have hl4 := hleave 4
     have hle : (S.leave id k).sets = S.sets ∧ (S.leave id k).ends = S.ends ∧ (S.leave id k).lastRun = S.lastRun ∧ (S.leave id k).lastToken = S.lastToken ∧ (S.leave id k).now = S.now ∧ (S.leave id k).seed = S.seed := by
      rw [dm hR hs]
      exact ⟨rfl, rfl, rfl, rfl, rfl, rfl⟩
     refine ⟨?_, by show (S.leave id k).sets + 1 ≤ _; omega, by show (S.leave id k).ends ≤ _; omega, hle.2.2.1, hle.2.2.2.1, hle.2.2.2.2.1, hle.2.2.2.2.2⟩
     refine mV (U := S.rests id k R s _) (id := id) (R := R) (R' := R.setS k ⟨4, s.tries, 0⟩) ?_ hR ?_ (fun a ha => ?_) (qe hs hrun ?_)
     · show ((S.leave id k).setR id (R.turned k s 4)).runs.map (·.1) = _
       rw [hl4]
       exact setR_keys
     · show ((S.leave id k).setR id (R.turned k s 4)).getR id = _
       rw [hl4]
       exact cg hR
     · show ((S.leave id k).setR id (R.turned k s 4)).getR a = _
       rw [hl4]
       exact dM ha
     · have h5 : l6 s = 2 := by unfold l6; rw [h3]; rfl
       rw [h5]
       show 1 < 2
       decide
   · rename_i hb
     obtain ⟨T, hT⟩ : ∃ T, T = m4 R.fl.nodes := ⟨_, rfl⟩
     rw [← hT]
     have hbud : s.tries = n.budget := by have := hp.trb; omega
     obtain ⟨D, hD⟩ : ∃ D, D = (S.leave id k).setR id ((R.turned k s 6).skips T) := ⟨_, rfl⟩
     have hDo : Ok D := by
      have h1 := h.part hR hs hn h3 (st := 6) (.inr (.inr ⟨rfl, hbud⟩))
      have h2 := Ok.skips (id := id) T h1 (j3 hR hs)
      rw [dX] at h2
      rw [hD]
      exact h2
     have hDe : D = { S.setR id ((R.turned k s 6).skips T) with tasks := S.tasks.eraseP (·.1 == s.token), tms := (S.tms.filter fun x => x.1 != ⟨id, (k : Int), 1⟩).filter fun x => x.1 != ⟨id, (k : Int), 2⟩ } := by
      rw [hD, dm hR hs]
      show ((({ S with tasks := S.tasks.eraseP (·.1 == s.token) }.setR id (R.setS k { s with token := 0 })).setR id _).unset _).unset _ = _
      rw [dX]
      rfl
     have hDg : D.getR id = some ((R.turned k s 6).skips T) := by rw [hDe]; exact cg hR
     have hw : ow ((R.turned k s 6).skips T) < ow R := by
      have h1 : ow ((R.turned k s 6).skips T) = 1 + ((R.turned k s 6).steps.map l6).sum := by
       unfold ow Rn.skips
       rw [pg]
       exact if_pos hrun
      have h2 : ow (R.setS k ⟨6, s.tries, 0⟩) = 1 + ((R.setS k ⟨6, s.tries, 0⟩).steps.map l6).sum := by unfold ow; exact if_pos hrun
      have h5 : R.turned k s 6 = R.setS k ⟨6, s.tries, 0⟩ := by unfold Rn.turned; rw [jW]
      rw [h1, h5, ← h2]
      refine qe hs hrun ?_
      have h6 : l6 s = 2 := by unfold l6; rw [h3]; rfl
      rw [h6]
      show 0 < 2
      decide
     have hm : D.mass < S.mass := mV (by rw [hDe]; exact setR_keys) hR hDg (fun a ha => by rw [hDe]; exact dM ha) hw
     have hset : S.dies id k R s T = D.settle id := by rw [hD]; rfl
     rw [hset]
     have hl : D.sets = S.sets ∧ D.ends = S.ends ∧ D.lastRun = S.lastRun ∧ D.lastToken = S.lastToken ∧ D.now = S.now ∧ D.seed = S.seed := by rw [hDe]; exact ⟨rfl, rfl, rfl, rfl, rfl, rfl⟩
     rcases qD hDg with e | ⟨st, hst, e⟩
     · rw [e]
       exact ⟨hm, by omega, by omega, hl.2.2.1, hl.2.2.2.1, hl.2.2.2.2.1, hl.2.2.2.2.2⟩
     · rw [e]
       have := hDo.finish_less hDg hrun (st := st) (by omega)
       exact ⟨Nat.lt_trans this.mass hm, by have := (hDo.ended hDg st).sets; omega, by have := this.ends; omega, this.lastRun.trans hl.2.2.1, this.lastToken.trans hl.2.2.2.1, this.now.trans hl.2.2.2.2.1, this.seed.trans hl.2.2.2.2.2⟩
end FK

namespace FK
def Low (ns : List Node) : Prop := ∀ i nd, ns[i]? = some nd → cf nd ∧ EdgesOk i (-1) nd.after
theorem EdgesOk.more {len len' : Nat} (h : len ≤ len') : ∀ {p : Int} {l : List Int}, EdgesOk len p l → EdgesOk len' p l
 | _, [], _ => trivial
 | _, _ :: _, ⟨h1, h2, h3⟩ => ⟨h1, by omega, EdgesOk.more h h3⟩
theorem EdgesOk.snoc {len : Nat} : ∀ {p : Int} {l : List Int} {k : Int}, EdgesOk len p l → (∀ x ∈ l, x < k) → p < k → k < len → EdgesOk len p (l ++ [k])
 | _, [], _, _, _, h2, h3 => ⟨h2, h3, trivial⟩
 | _, x :: _l, _, ⟨h1, h2, h3⟩, h4, _, h6 => ⟨h1, h2, EdgesOk.snoc h3 (fun y hy => h4 y (List.mem_cons_of_mem _ hy)) (h4 x (List.mem_cons_self ..)) h6⟩
theorem Low.fit {d : Int} {ns : List Node} (h : Low ns) (hd : span d 1) (h1 : 1 ≤ ns.length) (h2 : ns.length ≤ 12) : Fit ⟨d, ns⟩ := by
 refine ⟨⟨hd, h1, h2⟩, fun j n _ hj => ⟨(h j n hj).1, (h j n hj).2.more (Nat.le_of_lt (List.getElem?_eq_some_iff.1 hj).1)⟩, fun i _ => ?_⟩
 revert i
 have key : ∀ i, Ac ns i := by
  intro i
  induction i using Nat.strongRecOn with
  | _ i ih =>
   refine Ac.mk i fun k hk => ?_
   have hlt : k < i := by
    unfold cO at hk
    cases hn : ns[i]? with
    | none => rw [hn] at hk; simp at hk
    | some nd =>
     rw [hn] at hk
     simp at hk
     obtain ⟨x, hx, rfl⟩ := hk
     have := (h i nd hn).2.bounds x hx
     omega
   exact ih k hlt
 exact fun i _ => key i
structure Reach (ns : List Node) (a : Nat) (R : Nat → Bool) : Prop where
 at_ : R a = true
 low : ∀ i, i < a → R i = false
 dom : ∀ i, R i = true → ns[i]? ≠ none
 step : ∀ i nd, a < i → ns[i]? = some nd → (R i = true ↔ ∃ k ∈ nd.after, R k.toNat = true)
section
variable {ns : List Node} {a z : Nat} {nd : Node} {R : Nat → Bool}
end
end FK

namespace FK
def zB (i : Nat) : Node := ⟨1, 50, 0, 1, 1, 0, if i % 3 = 2 then [((i - 1 : Nat) : Int)] else []⟩
def zC (n : Nat) : Flow := ⟨100, (List.range n).map zB⟩
structure FRun (n : Nat) (R : Rn) : Prop where
 fl : R.fl = zC n
 len : R.steps.length = n
 a : ∀ (j : Nat) (s : Sp), R.steps[j]? = some s → j % 3 ≠ 2 → s.state = 2 ∨ s.state = 5
 b : ∀ (j : Nat) (s : Sp), R.steps[j]? = some s → j % 3 = 2 → (s.state = 1 ∧ bR R.steps (j - 1) 2 = true) ∨ ((s.state = 2 ∨ s.state = 5) ∧ bR R.steps (j - 1) 5 = true)
 t : ∀ (j : Nat) (s : Sp), R.steps[j]? = some s → s.state = 2 → s = ⟨2, 0, 0⟩
 w : ∀ (j : Nat) (s : Sp), R.steps[j]? = some s → s.state = 1 → s = ⟨1, 0, 0⟩
def fnext (id n k : Nat) : List Pl := if k % 3 = 1 ∧ k + 1 < n then [⟨id, ((k + 1 : Nat) : Int), 0⟩] else []
end FK

namespace FK
structure Stepped (S S1 S2 : En) (id k n : Nat) (q : List Pl) : Prop where
 one : Ok S1
 two : Ok S2
 task : (S1.tasks.find? (·.1 == S.lastToken + 1)).map (·.2) = some ⟨id, (k : Int), 0⟩
 queue : S2.queue = q ++ fnext id n k
 run : ∃ R', S2.getR id = some R' ∧ FRun n R'
 others : ∀ a, a ≠ id → S2.getR a = S.getR a
 lastRun : S2.lastRun = S.lastRun
 runs : S2.runs.length = S.runs.length
 sets : S2.sets = S.sets + 1
 now : S2.now = S.now
 lastToken : S2.lastToken = S.lastToken + 1
 ends : S2.ends ≤ S.ends + 1
 sets1 : S1.sets = S.sets + 1
 ends1 : S1.ends = S.ends
 token1 : S1.lastToken = S.lastToken + 1
 lastRun1 : S1.lastRun = S.lastRun
end FK

namespace FK
def flow2 : Flow := ⟨100, [⟨2, 9, 0, 3, 9, 0, []⟩, ⟨1, 9, 0, 1, 1, 0, [0]⟩]⟩
def pO (st : Int) (a b : Sp) (e : Nat) : Rn := ⟨flow2, st, [a, b], e⟩
def o1 : En := ⟨0, 0, 1, 0, 0, [(1, pO 1 ⟨2, 0, 0⟩ ⟨1, 0, 0⟩ 0)], [], [⟨1, 0, 0⟩], [(⟨1, -1, 0⟩, 100)], 1⟩
def o2 : En := ⟨0, 0, 1, 1, 0, [(1, pO 1 ⟨3, 1, 1⟩ ⟨1, 0, 0⟩ 0)], [(1, ⟨1, 0, 0⟩)], [], [(⟨1, -1, 0⟩, 100), (⟨1, 0, 1⟩, 9)], 2⟩
def o3 : En := ⟨0, 0, 1, 1, 0, [(1, pO 1 ⟨4, 1, 0⟩ ⟨1, 0, 0⟩ 0)], [], [], [(⟨1, -1, 0⟩, 100), (⟨1, 0, 1⟩, 3)], 3⟩
def o4 : En := ⟨3, 0, 1, 1, 0, [(1, pO 1 ⟨2, 1, 0⟩ ⟨1, 0, 0⟩ 0)], [], [⟨1, 0, 0⟩], [(⟨1, -1, 0⟩, 100)], 3⟩
def o5 : En := ⟨3, 0, 1, 2, 0, [(1, pO 1 ⟨3, 2, 2⟩ ⟨1, 0, 0⟩ 0)], [(2, ⟨1, 0, 0⟩)], [], [(⟨1, -1, 0⟩, 100), (⟨1, 0, 1⟩, 12)], 4⟩
def o6 : En := ⟨3, 0, 1, 2, 0, [(1, pO 1 ⟨5, 2, 0⟩ ⟨2, 0, 0⟩ 0)], [], [⟨1, 1, 0⟩], [(⟨1, -1, 0⟩, 100)], 4⟩
def o7 : En := ⟨3, 0, 1, 3, 0, [(1, pO 1 ⟨5, 2, 0⟩ ⟨3, 1, 3⟩ 0)], [(3, ⟨1, 1, 0⟩)], [], [(⟨1, -1, 0⟩, 100), (⟨1, 1, 1⟩, 12)], 5⟩
def o8 : En := ⟨3, 0, 1, 3, 1, [(1, pO 2 ⟨5, 2, 0⟩ ⟨5, 1, 0⟩ 1)], [], [], [], 5⟩
theorem flow2_fit : Fit flow2 := by
 refine ⟨⟨by decide, by decide, by decide⟩, fun j nd hj hn => ?_, fun i hi => ?_⟩
 · have : j = 0 ∨ j = 1 := by have : j < 2 := hj; omega
   rcases this with rfl | rfl
   · have : (⟨2, 9, 0, 3, 9, 0, []⟩ : Node) = nd := by simpa [flow2] using hn
     subst this
     exact ⟨by unfold cf span; simp, trivial⟩
   · have : (⟨1, 9, 0, 1, 1, 0, [0]⟩ : Node) = nd := by simpa [flow2] using hn
     subst this
     exact ⟨by unfold cf span; simp, by decide, by decide, trivial⟩
 · have h0 : Ac flow2.nodes 0 := .mk 0 fun k hk => by simp [cO, flow2] at hk
   have : i = 0 ∨ i = 1 := by have : i < 2 := hi; omega
   rcases this with rfl | rfl
   · exact h0
   · refine .mk 1 fun k hk => ?_
     have : k = 0 := by simpa [cO, flow2] using hk
     subst this
     exact h0
theorem Bq : En.fresh.submit flow2 = o1 := rfl
theorem xX : o1.hand ⟨1, ((0 : Nat) : Int), 0⟩ [] (pO 1 ⟨2, 0, 0⟩ ⟨1, 0, 0⟩ 0) ⟨2, 0, 0⟩ ⟨2, 9, 0, 3, 9, 0, []⟩ = o2 := rfl
theorem xW : o2.fail 1 = o3 := by
 have hR : o2.getR 1 = some (pO 1 ⟨3, 1, 1⟩ ⟨1, 0, 0⟩ 0) := rfl
 have hs : (pO 1 ⟨3, 1, 1⟩ ⟨1, 0, 0⟩ 0).steps[0]? = some ⟨3, 1, 1⟩ := rfl
 have hn : (pO 1 ⟨3, 1, 1⟩ ⟨1, 0, 0⟩ 0).fl.nodes[0]? = some ⟨2, 9, 0, 3, 9, 0, []⟩ := rfl
 rw [kO (id := 1) (k := 0) (w := 0) rfl, gG hR hs hn, if_pos (by decide)]
 rfl
theorem o4_ticks : Ticks 3 o3 o4 := by
 refine .step (x := (⟨1, 0, 1⟩, 3)) (tms' := [(⟨1, -1, 0⟩, 100)]) ⟨[(⟨1, -1, 0⟩, 100)], [], rfl, rfl, by intro y hy; rw [List.mem_singleton] at hy; subst hy; decide, by intro y hy; cases hy⟩ (Nat.le_refl _) ?_
 have h1 : ({ o3 with now := 3, tms := [(⟨1, -1, 0⟩, 100)] } : En).due ⟨1, 0, 1⟩ = { o4 with now := 3 } := rfl
 rw [show ({ o3 with now := ((⟨1, 0, 1⟩, 3) : KD).2, tms := [(⟨1, -1, 0⟩, 100)] } : En).due ((⟨1, 0, 1⟩, 3) : KD).1 = { o4 with now := 3 } from h1]
 exact .done (S := { o4 with now := 3 }) (by intro y hy; have hy' : y ∈ [((⟨1, -1, 0⟩ : Pl), 100)] := hy; rw [List.mem_singleton] at hy'; subst hy'; decide)
theorem o4_eq {U : En} (h : Ticks 3 o3 U) : U = o4 := h.unique o4_ticks
theorem xU : o4.hand ⟨1, ((0 : Nat) : Int), 0⟩ [] (pO 1 ⟨2, 1, 0⟩ ⟨1, 0, 0⟩ 0) ⟨2, 1, 0⟩ ⟨2, 9, 0, 3, 9, 0, []⟩ = o5 := rfl
theorem xT : o5.complete 2 = o6 := rfl
theorem xS : o6.hand ⟨1, ((1 : Nat) : Int), 0⟩ [] (pO 1 ⟨5, 2, 0⟩ ⟨2, 0, 0⟩ 0) ⟨2, 0, 0⟩ ⟨1, 9, 0, 1, 1, 0, [0]⟩ = o7 := rfl
theorem xR : o7.complete 3 = o8 := rfl
theorem o1_ok : Ok o1 := Bq ▸ Ok.fresh.submit (by decide) flow2_fit
theorem o2_ok : Ok o2 := xX ▸ o1_ok.hand rfl rfl rfl rfl
theorem xV : Ok o3 := xW ▸ o2_ok.fail 1
theorem o4_ok : Ok o4 := o4_ticks.ok (by decide) xV
theorem o5_ok : Ok o5 := xU ▸ o4_ok.hand rfl rfl rfl rfl
theorem o6_ok : Ok o6 := xT ▸ o5_ok.complete 2
theorem o7_ok : Ok o7 := xS ▸ o6_ok.hand rfl rfl rfl rfl
theorem oQ : Ok o8 := xR ▸ o7_ok.complete 3
theorem cut0 {S0 : En} (h : qX En.fresh S0) : S0 = En.fresh := by
 unfold qX at h
 rw [if_neg (by decide)] at h
 exact h
theorem nG {n k : Nat} : n < 128 ^ (k + 1) → (bz n).length ≤ k + 1 := by
 induction k generalizing n with
 | zero =>
  intro h
  rw [bz, if_pos (by simpa using h)]
  simp
 | succ k ih =>
  intro h
  rw [bz]
  split
  · simp
  · have := ih (n := n / 128) (by rw [Nat.div_lt_iff_lt_mul (by omega)]; rw [Nat.pow_succ] at h; exact h)
    simp only [List.length_cons]
    omega
theorem em {x : Int} (h1 : x ≤ 1048576) : (bz x.toNat).length ≤ 3 := nG (k := 2) (by omega)
theorem nB {α β : Type} {f : α → List β} {n : Nat} : ∀ {l : List α}, (∀ x ∈ l, (f x).length ≤ n) → (l.flatMap f).length ≤ l.length * n
 | [], _ => by simp
 | x :: l, h => by
  have h1 := h x (.head _)
  have h2 := nB (l := l) fun y hy => h y (.tail _ hy)
  rw [List.flatMap_cons, List.length_append, List.length_cons, Nat.succ_mul]
  omega
theorem ja {len : Nat} : ∀ (l : List Int) (p : Int), EdgesOk len p l → (l.length : Int) ≤ max 0 ((len : Int) - 1 - p)
 | [], _, _ => by simp; omega
 | k :: r, p, h => by
  obtain ⟨h1, h2, h3⟩ := h
  have := ja r k h3
  simp only [List.length_cons]
  omega
theorem Fit.encLen {f : Flow} (h : Fit f) : (bL f).length ≤ 1000 := by
 have h12 := h.head.2.2
 have hd := em h.head.1.2
 have hn : (bz f.nodes.length).length ≤ 3 := nG (k := 2) (by omega)
 have hnodes : (f.nodes.flatMap cU).length ≤ f.nodes.length * 60 := nB fun nd db => by
  obtain ⟨i, hi⟩ := List.getElem?_of_mem db
  obtain ⟨⟨a1, a2, ⟨b1, b2⟩, ⟨c1, c2⟩, ⟨d1, d2⟩, ⟨e1, e2⟩, g1, g2⟩, he⟩ := h.nodes i nd (bx hi) hi
  have hl := ja _ _ he
  have k1 := em (x := nd.budget) (by omega)
  have k2 := em (x := nd.close) (by omega)
  have k3 := em (x := nd.beat) (by omega)
  have k4 := em (x := nd.base) (by omega)
  have k5 := em (x := nd.cap) (by omega)
  have k6 := em (x := nd.jitter) (by omega)
  have k7 : (bz nd.after.length).length ≤ 3 := nG (k := 2) (by omega)
  have k8 : (nd.after.flatMap fun k => bz k.toNat).length ≤ nd.after.length * 3 := nB fun x hx => by
   have hin : ∀ (l : List Int) (p : Int), EdgesOk f.nodes.length p l → ∀ y ∈ l, y < f.nodes.length := by
    intro l
    induction l with
    | nil => intro _ _ y hy; simp at hy
    | cons z l ih =>
     intro p hp y hy
     rcases List.mem_cons.1 hy with rfl | hy
     · exact hp.2.1
     · exact ih z hp.2.2 y hy
   exact em (by have := hin _ _ he x hx; omega)
  unfold cU
  simp only [List.length_append]
  omega
 unfold bL
 simp only [List.length_append]
 omega
end FK

namespace FK
def im (R : Rn) (k : Nat) : Prop := ∀ u ∈ cO R.fl.nodes k, bR R.steps u 5 = true
theorem isAt_iff {l : List Sp} {k : Nat} {x : Int} : bR l k x = true ↔ ∃ s, l[k]? = some s ∧ s.state = x := by
 constructor
 · exact qq
 · rintro ⟨s, h1, h2⟩
   rw [cR h1]
   simpa using h2
theorem kY {R : Rn} {k : Nat} {s : Sp} (hs : R.steps[k]? = some s) (hl : R.steps.length = R.fl.nodes.length) : cZ R k = true ↔ s.state = 1 ∧ im R k := by
 have hk := (List.getElem?_eq_some_iff.1 hs).1
 have hn : R.fl.nodes[k]? = some (R.fl.nodes[k]'(by omega)) := List.getElem?_eq_getElem _
 rw [j4 hs hn]
 unfold im
 rw [tu hn]
 simp only [Bool.and_eq_true, beq_iff_eq, List.all_eq_true, List.mem_map]
 constructor
 · rintro ⟨h1, h2⟩
   exact ⟨h1, fun u ⟨x, hx, e⟩ => by rw [← e]; exact h2 x hx⟩
 · rintro ⟨h1, h2⟩
   exact ⟨h1, fun x hx => h2 _ ⟨x, hx, rfl⟩⟩
structure Hon0 (R : Rn) : Prop where
 up : ∀ (k : Nat) (s : Sp), R.steps[k]? = some s → (2 ≤ s.state ∧ s.state ≤ 6) → im R k
 wt : R.state = 1 → ∀ (k : Nat) (s : Sp), R.steps[k]? = some s → s.state = 1 → ¬ im R k
 sk : R.state = 1 → ∀ (k : Nat) (s : Sp), R.steps[k]? = some s → s.state = 1 → ∀ u ∈ cO R.fl.nodes k, bR R.steps u 6 = false ∧ bR R.steps u 7 = false
structure Hon (R : Rn) : Prop where
 h0 : Hon0 R
 go : R.state = 1 → ∃ (k : Nat) (s : Sp), R.steps[k]? = some s ∧ over s = false
 all : R.state = 2 → ∀ (k : Nat) (s : Sp), R.steps[k]? = some s → s.state = 5
 lost : R.state ≠ 1 → R.state ≠ 2 → ∃ (k : Nat) (s : Sp), R.steps[k]? = some s ∧ s.state ≠ 5
theorem over_iff {s : Sp} : over s = true ↔ s.state = 5 ∨ s.state = 6 ∨ s.state = 7 := by
 unfold over
 simp only [Bool.or_eq_true, beq_iff_eq]
 omega
theorem kV {s : Sp} : over s = false ↔ s.state ≠ 5 ∧ s.state ≠ 6 ∧ s.state ≠ 7 := by
 rw [← Bool.not_eq_true, over_iff]
 omega
structure Nx (s s' : Sp) : Prop where
 tries : s'.tries = s.tries
 ov : over s = true → s'.state = s.state
 w3 : s'.state = 3 → s' = s
 w4 : s'.state = 4 → s.state = 4
 w2 : s'.state = 2 → s.state = 2 ∨ s.state = 1
 w1 : s'.state = 1 → s.state = 1
theorem Nx.refl (s : Sp) : Nx s s := ⟨rfl, fun _ => rfl, fun _ => rfl, fun h => h, fun h => .inl h, fun h => h⟩
theorem Nx.trans {a b c : Sp} (h : Nx a b) (k : Nx b c) : Nx a c := ⟨k.tries.trans h.tries, fun ho => (k.ov (by have := h.ov ho; rw [over_iff] at ho ⊢; omega)).trans (h.ov ho), fun e => by
 have e2 := k.w3 e
 rw [e2]
 exact h.w3 (by rw [← e2]; exact e), fun e => h.w4 (k.w4 e), fun e => by
 rcases k.w2 e with e | e
 · exact h.w2 e
 · exact .inr (h.w1 e), fun e => h.w1 (k.w1 e)⟩
theorem Bm {s : Sp} (h : s.state = 1) : Nx s { s with state := 2 } := ⟨rfl, fun ho => by rw [over_iff] at ho; omega, fun e => by replace e : (2 : Int) = 3 := e; omega, fun e => by replace e : (2 : Int) = 4 := e; omega, fun _ => .inr h, fun e => by replace e : (2 : Int) = 1 := e; omega⟩
theorem Nx.skip {s : Sp} (h : s.state = 1) : Nx s { s with state := 7 } := ⟨rfl, fun ho => by rw [over_iff] at ho; omega, fun e => by replace e : (7 : Int) = 3 := e; omega, fun e => by replace e : (7 : Int) = 4 := e; omega, fun e => by replace e : (7 : Int) = 2 := e; omega, fun e => by replace e : (7 : Int) = 1 := e; omega⟩
theorem ka {s : Sp} (h : over s = true) : (ez { s with token := 0 }).state = s.state := by
 rw [over_iff] at h
 unfold ez
 split
 · rfl
 · rename_i hn
   have : ¬ (s.state = 5 ∨ s.state = 6) := hn
   show (7 : Int) = _
   omega
theorem nF {s : Sp} (h : s.state ≠ 5) : (ez { s with token := 0 }).state ≠ 5 := by
 unfold ez
 split
 · exact h
 · show (7 : Int) ≠ 5
   decide
theorem endS_five {s : Sp} : (ez { s with token := 0 }).state = 5 ↔ s.state = 5 := by
 constructor
 · intro h
   exact Classical.byContradiction fun hn => nF hn h
 · intro h
   rw [ka (over_iff.2 (.inl h))]
   exact h
theorem Nx.ended (s : Sp) : Nx s (ez { s with token := 0 }) := by
 have h := kA { s with token := 0 }
 exact ⟨oh _, ka, fun e => by omega, fun e => by omega, fun e => by omega, fun e => by omega⟩
def cX (R : Rn) (n : Nat) : Rn := { R with steps := R.steps.mapIdx fun j s => if j < n ∧ cZ R j = true then { s with state := 2 } else s }
theorem dQ {R : Rn} {n j : Nat} {s : Sp} (hs : R.steps[j]? = some s) : (cX R n).steps[j]? = some (if j < n ∧ cZ R j = true then { s with state := 2 } else s) := by
 unfold cX
 simp only [List.getElem?_mapIdx, hs, Option.map_some]
theorem dq (R : Rn) (n : Nat) : (cX R n).steps.length = R.steps.length := by simp [cX]
theorem nA {R : Rn} {k : Nat} {s : Sp} (hs : R.steps[k]? = some s) (h : cZ R k = true) : s.state = 1 := by
 unfold cZ at h
 simp only [Bool.and_eq_true] at h
 have h1 := h.1
 rw [cR hs] at h1
 simpa using h1
theorem nk {R : Rn} {n j : Nat} {x : Int} (h1 : x ≠ 1) (h2 : x ≠ 2) : bR (cX R n).steps j x = bR R.steps j x := by
 cases hs : R.steps[j]? with
 | none =>
  unfold bR
  have : (cX R n).steps[j]? = none := by rw [List.getElem?_eq_none_iff] at hs ⊢; rw [dq]; exact hs
  rw [this, hs]
 | some s =>
  rw [cR (dQ hs), cR hs]
  split
  · rename_i h
    have := nA hs h.2
    rw [this]
    have e1 : ((2 : Int) == x) = false := by simpa using fun e => h2 e.symm
    have e2 : ((1 : Int) == x) = false := by simpa using fun e => h1 e.symm
    show ((2 : Int) == x) = _
    rw [e1, e2]
  · rfl
theorem nj {R : Rn} {n k : Nat} : im (cX R n) k ↔ im R k := by
 unfold im
 have : ∀ u, bR (cX R n).steps u 5 = bR R.steps u 5 := fun u => nk (by decide) (by decide)
 simp only [this]
 exact Iff.rfl
theorem tC (R : Rn) : cX R 0 = R := by
 have : R.steps.mapIdx (fun j s => if j < 0 ∧ cZ R j = true then { s with state := 2 } else s) = R.steps := by
  apply List.ext_getElem?
  intro j
  rw [List.getElem?_mapIdx]
  cases R.steps[j]? <;> simp
 unfold cX
 rw [this]
theorem tE {R : Rn} {n : Nat} (hl : R.steps.length = R.fl.nodes.length) (hn : n < R.steps.length) : cZ (cX R n) n = cZ R n := by
 have hs : R.steps[n]? = some (R.steps[n]) := List.getElem?_eq_getElem hn
 have hs' := dQ (n := n) hs
 rw [if_neg (by omega)] at hs'
 rw [Bool.eq_iff_iff, kY hs hl, kY hs' (by rw [dq]; exact hl), nj]
theorem tD {R : Rn} {n : Nat} {s : Sp} (hs : R.steps[n]? = some s) : cX R (n + 1) = if cZ R n = true then (cX R n).setS n { s with state := 2 } else cX R n := by
 have hlt := (List.getElem?_eq_some_iff.1 hs).1
 have e : ∀ A B : Rn, A.fl = B.fl → A.state = B.state → A.ended = B.ended → A.steps = B.steps → A = B := by
  rintro ⟨_, _, _, _⟩ ⟨_, _, _, _⟩ h1 h2 h3 h4
  simp only at h1 h2 h3 h4
  rw [h1, h2, h3, h4]
 split
 · rename_i hf
   refine e _ _ rfl rfl rfl ?_
   apply List.ext_getElem?
   intro j
   show (cX R (n + 1)).steps[j]? = ((cX R n).steps.set n _)[j]?
   by_cases hj : j = n
   · subst hj
     rw [List.getElem?_set_self (by rw [dq]; exact hlt), dQ hs, if_pos ⟨by omega, hf⟩]
   · rw [List.getElem?_set_ne (Ne.symm hj)]
     cases hsj : R.steps[j]? with
     | none => rw [List.getElem?_eq_none_iff] at hsj; rw [List.getElem?_eq_none (by rw [dq]; exact hsj), List.getElem?_eq_none (by rw [dq]; exact hsj)]
     | some u =>
      rw [dQ hsj, dQ hsj]
      have : (j < n + 1 ∧ cZ R j = true) ↔ (j < n ∧ cZ R j = true) := by
       constructor
       · rintro ⟨a, b⟩; exact ⟨by omega, b⟩
       · rintro ⟨a, b⟩; exact ⟨by omega, b⟩
      simp only [this]
 · rename_i hf
   refine e _ _ rfl rfl rfl ?_
   apply List.ext_getElem?
   intro j
   cases hsj : R.steps[j]? with
   | none => rw [List.getElem?_eq_none_iff] at hsj; rw [List.getElem?_eq_none (by rw [dq]; exact hsj), List.getElem?_eq_none (by rw [dq]; exact hsj)]
   | some u =>
    rw [dQ hsj, dQ hsj]
    have : (j < n + 1 ∧ cZ R j = true) ↔ (j < n ∧ cZ R j = true) := by
     constructor
     · rintro ⟨a, b⟩
       refine ⟨?_, b⟩
       by_cases hj : j = n
       · subst hj; exact absurd b hf
       · omega
     · rintro ⟨a, b⟩; exact ⟨by omega, b⟩
    simp only [this]
structure Fr (id : Nat) (S U : En) : Prop where
 others : ∀ a, a ≠ id → U.getR a = S.getR a
 keys : U.runs.map (·.1) = S.runs.map (·.1)
 now : U.now = S.now
 seed : U.seed = S.seed
 lastRun : U.lastRun = S.lastRun
 lastToken : U.lastToken = S.lastToken
theorem Fr.refl (id : Nat) (S : En) : Fr id S S := ⟨fun _ _ => rfl, rfl, rfl, rfl, rfl, rfl⟩
theorem Fr.trans {id : Nat} {S T U : En} (h : Fr id S T) (k : Fr id T U) : Fr id S U := ⟨fun a ha => (k.others a ha).trans (h.others a ha), k.keys.trans h.keys, k.now.trans h.now, k.seed.trans h.seed, k.lastRun.trans h.lastRun, k.lastToken.trans h.lastToken⟩
structure Same (S U : En) : Prop where
 tms : U.tms = S.tms
 tasks : U.tasks = S.tasks
 ends : U.ends = S.ends
 sets : U.sets = S.sets
theorem gQ {S : En} {id k : Nat} {R : Rn} {s : Sp} (hR : S.getR id = some R) (hs : R.steps[k]? = some s) : Fr id S (S.ready id k) ∧ Same S (S.ready id k) := by
 rw [gR hR hs]
 exact ⟨⟨fun a ha => dM ha, setR_keys, rfl, rfl, rfl, rfl⟩, ⟨rfl, rfl, rfl, rfl⟩⟩
theorem rh {S : En} {id : Nat} {R : Rn} (hR : S.getR id = some R) (hl : R.steps.length = R.fl.nodes.length) : ∀ n, n ≤ R.steps.length → (S.wakeN id n).getR id = some (cX R n) ∧ Fr id S (S.wakeN id n) ∧ Same S (S.wakeN id n) ∧ ∃ l, (S.wakeN id n).queue = S.queue ++ l
 | 0, _ => ⟨by rw [tC]; exact hR, Fr.refl _ _, ⟨rfl, rfl, rfl, rfl⟩, [], by simp [En.wakeN]⟩
 | n + 1, hn => by
  obtain ⟨h1, h2, h3, l, h4⟩ := rh hR hl n (by omega)
  have hs : R.steps[n]? = some (R.steps[n]) := List.getElem?_eq_getElem (by omega)
  have hs' := dQ (n := n) hs
  rw [if_neg (by omega)] at hs'
  rw [e8, ju h1, tE hl (by omega), tD hs]
  split
  · have hf := gQ h1 hs'
    refine ⟨?_, h2.trans hf.1, ⟨hf.2.tms.trans h3.tms, hf.2.tasks.trans h3.tasks, hf.2.ends.trans h3.ends, hf.2.sets.trans h3.sets⟩, l ++ [⟨id, (n : Int), 0⟩], ?_⟩
    · rw [gR h1 hs']
      exact cg h1
    · rw [gR h1 hs']
      show (S.wakeN id n).queue ++ _ = _
      rw [h4, List.append_assoc]
  · exact ⟨h1, h2, h3, l, h4⟩
theorem va {S : En} {id : Nat} {R : Rn} (hR : S.getR id = some R) (hl : R.steps.length = R.fl.nodes.length) : (S.wake id).getR id = some (cX R R.steps.length) ∧ Fr id S (S.wake id) ∧ Same S (S.wake id) ∧ ∃ l, (S.wake id).queue = S.queue ++ l := by
 unfold En.wake
 rw [hR]
 simp only
 rw [← hl]
 exact rh hR hl _ (Nat.le_refl _)
theorem Hon0.wake {R : Rn} (hl : R.steps.length = R.fl.nodes.length) (hu : ∀ (k : Nat) (s : Sp), R.steps[k]? = some s → (2 ≤ s.state ∧ s.state ≤ 6) → im R k) (hk : ∀ (k : Nat) (s : Sp), R.steps[k]? = some s → s.state = 1 → ∀ u ∈ cO R.fl.nodes k, bR R.steps u 6 = false ∧ bR R.steps u 7 = false) : Hon0 (cX R R.steps.length) := by
 have key : ∀ (k : Nat) (s' : Sp), (cX R R.steps.length).steps[k]? = some s' → ∃ s, R.steps[k]? = some s ∧ s' = if cZ R k = true then { s with state := 2 } else s := fun k s' h => by
  have hlt : k < R.steps.length := by have := (List.getElem?_eq_some_iff.1 h).1; rwa [dq] at this
  have hs : R.steps[k]? = some (R.steps[k]) := List.getElem?_eq_getElem hlt
  have := dQ (n := R.steps.length) hs
  rw [h] at this
  injection this with this
  refine ⟨_, hs, ?_⟩
  rw [this]
  simp only [hlt, true_and]
 refine ⟨fun k s' hs' hst => ?_, fun _ k s' hs' h1 => ?_, fun _ k s' hs' h1 u hu' => ?_⟩
 · obtain ⟨s, hs, e⟩ := key k s' hs'
   rw [nj]
   split at e
   · rename_i hf
     exact ((kY hs hl).1 hf).2
   · rw [e] at hst
     exact hu k s hs hst
 · obtain ⟨s, hs, e⟩ := key k s' hs'
   rw [nj]
   split at e
   · rw [e] at h1
     replace h1 : (2 : Int) = 1 := h1
     omega
   · rename_i hf
     rw [e] at h1
     exact fun h => hf ((kY hs hl).2 ⟨h1, h⟩)
 · obtain ⟨s, hs, e⟩ := key k s' hs'
   rw [nk (by decide) (by decide), nk (by decide) (by decide)]
   split at e
   · rw [e] at h1
     replace h1 : (2 : Int) = 1 := h1
     omega
   · rw [e] at h1
     exact hk k s hs h1 u hu'
theorem yJ {R : Rn} {n j : Nat} {s : Sp} (hs : R.steps[j]? = some s) : ∃ s', (cX R n).steps[j]? = some s' ∧ Nx s s' := by
 refine ⟨_, dQ hs, ?_⟩
 split
 · rename_i h
   exact Bm (nA hs h.2)
 · exact Nx.refl s
structure Fin (id : Nat) (S U : En) (R R' : Rn) (st : Int) : Prop where
 get : U.getR id = some R'
 fr : Fr id S U
 fl : R'.fl = R.fl
 state : R'.state = st
 len : R'.steps.length = R.steps.length
 steps : ∀ (j : Nat) (s : Sp), R.steps[j]? = some s → R'.steps[j]? = some (ez { s with token := 0 })
 tms : ∀ x ∈ U.tms, x ∈ S.tms
 ends : U.ends = S.ends + 1
 sets : U.sets = S.sets
theorem Ok.fin {S : En} (h : Ok S) {id : Nat} {R : Rn} (hR : S.getR id = some R) (st : Int) : ∃ R', Fin id S (S.finish id st) R R' st := by
 have he := h.ended hR st
 obtain ⟨R', g1, g2, g3, g4, g5, g6⟩ := he.run
 exact ⟨R', g1, ⟨he.others, he.keys, he.now, he.seed, he.lastRun, he.lastToken⟩, g2, g3, g5, g6, fun x hx => ((he.tms x).1 hx).1, he.ends, he.sets⟩
theorem Fin.back {id : Nat} {S U : En} {R R' : Rn} {st : Int} (h : Fin id S U R R' st) {k : Nat} {s' : Sp} (hs : R'.steps[k]? = some s') : ∃ s, R.steps[k]? = some s ∧ s' = ez { s with token := 0 } := by
 have hlt : k < R.steps.length := by have := (List.getElem?_eq_some_iff.1 hs).1; rwa [h.len] at this
 have hs0 : R.steps[k]? = some (R.steps[k]) := List.getElem?_eq_getElem hlt
 have := h.steps k _ hs0
 rw [hs] at this
 injection this with this
 exact ⟨_, hs0, this⟩
theorem Fin.up {id : Nat} {S U : En} {R R' : Rn} {st : Int} (h : Fin id S U R R' st) {k : Nat} (hu : im R k) : im R' k := by
 unfold im at hu ⊢
 rw [h.fl]
 intro u hm
 obtain ⟨s, hs, h5⟩ := isAt_iff.1 (hu u hm)
 exact isAt_iff.2 ⟨_, h.steps u s hs, endS_five.2 h5⟩
theorem Fin.hon0 {id : Nat} {S U : En} {R R' : Rn} {st : Int} (h : Fin id S U R R' st) (hst : st ≠ 1) (h0 : ∀ (k : Nat) (s : Sp), R.steps[k]? = some s → (2 ≤ s.state ∧ s.state ≤ 6) → im R k) : Hon0 R' := by
 refine ⟨fun k s' hs' hr => ?_, fun e => absurd (h.state.symm.trans e) hst, fun e => absurd (h.state.symm.trans e) hst⟩
 obtain ⟨s, hs, rfl⟩ := h.back hs'
 refine h.up (h0 k s hs ?_)
 unfold ez at hr
 split at hr
 · exact hr
 · have : (2 : Int) ≤ 7 ∧ (7 : Int) ≤ 6 := hr
   omega
theorem Fin.hon {id : Nat} {S U : En} {R R' : Rn} {st : Int} (h : Fin id S U R R' st) (h1 : st ≠ 1) (h2 : st ≠ 2) (hH : Hon R) (hrun : R.state = 1) : Hon R' := by
 refine ⟨h.hon0 h1 hH.h0.up, fun e => absurd (h.state.symm.trans e) h1, fun e => absurd (h.state.symm.trans e) h2, fun _ _ => ?_⟩
 obtain ⟨k, s, hs, ho⟩ := hH.go hrun
 rw [kV] at ho
 exact ⟨k, _, h.steps k s hs, nF ho.1⟩
structure Settled (id : Nat) (S U : En) (R R' : Rn) : Prop where
 get : U.getR id = some R'
 fr : Fr id S U
 fl : R'.fl = R.fl
 len : R'.steps.length = R.steps.length
 steps : ∀ (j : Nat) (s : Sp), R.steps[j]? = some s → ∃ s', R'.steps[j]? = some s' ∧ Nx s s' ∧ s'.state = s.state
 hon : Hon R'
 tms : ∀ x ∈ U.tms, x ∈ S.tms
 ends : U.ends ≤ S.ends + 1
 sets : U.sets = S.sets
 stay : R'.state = 1 → U = S ∧ R' = R
theorem Ok.settled {S : En} (h : Ok S) {id : Nat} {R : Rn} (hR : S.getR id = some R) (hrun : R.state = 1) (h0 : Hon0 R) : ∃ R', Settled id S (S.settle id) R R' := by
 unfold En.settle
 rw [hR]
 simp only
 by_cases ha : R.steps.all over = true
 · rw [if_pos ha]
   rw [List.all_eq_true] at ha
   have ho : ∀ (j : Nat) (s : Sp), R.steps[j]? = some s → over s = true := fun j s hs => ha s (List.mem_of_getElem? hs)
   obtain ⟨st, hst⟩ : ∃ st : Int, st = if (R.steps.all fun s => s.state == 5) = true then 2 else 3 := ⟨_, rfl⟩
   have hst1 : st ≠ 1 := by rw [hst]; split <;> decide
   rw [← hst]
   obtain ⟨R', hF⟩ := h.fin hR st
   refine ⟨R', hF.get, hF.fr, hF.fl, hF.len, fun j s hs => ⟨_, hF.steps j s hs, Nx.ended s, ka (ho j s hs)⟩, ⟨hF.hon0 hst1 h0.up, fun e => absurd (hF.state.symm.trans e) hst1, fun e k s' hs' => ?_, fun _ e => ?_⟩, hF.tms, Nat.le_of_eq hF.ends, hF.sets, fun e => absurd (hF.state.symm.trans e) hst1⟩
   · obtain ⟨s, hs, rfl⟩ := hF.back hs'
     rw [ka (ho k s hs)]
     have e2 : st = 2 := hF.state.symm.trans e
     rw [hst] at e2
     split at e2
     · rename_i h5
       rw [List.all_eq_true] at h5
       simpa using h5 s (List.mem_of_getElem? hs)
     · omega
   · have e2 : ¬ (R.steps.all fun s => s.state == 5) = true := fun h5 => e (by rw [hF.state, hst, if_pos h5])
     rw [List.all_eq_true] at e2
     have : ∃ s ∈ R.steps, s.state ≠ 5 := Classical.byContradiction fun hn => e2 fun s hs => by
      have : s.state = 5 := Classical.byContradiction fun h5 => hn ⟨s, hs, h5⟩
      simpa using this
     obtain ⟨s, hs, h5⟩ := this
     obtain ⟨k, hk⟩ := List.getElem?_of_mem hs
     exact ⟨k, _, hF.steps k s hk, nF h5⟩
 · rw [if_neg ha]
   have : ∃ s ∈ R.steps, over s = false := Classical.byContradiction fun hn => ha (List.all_eq_true.2 fun s hs => by
    cases ho : over s with
    | true => rfl
    | false => exact absurd ⟨s, hs, ho⟩ hn)
   obtain ⟨s, hs, h5⟩ := this
   obtain ⟨k, hk⟩ := List.getElem?_of_mem hs
   exact ⟨R, hR, Fr.refl _ _, rfl, rfl, fun j s hs => ⟨s, hs, Nx.refl s, rfl⟩, ⟨h0, fun _ => ⟨k, s, hk, h5⟩, fun e => by omega, fun e => absurd hrun e⟩, fun _ hx => hx, Nat.le_succ _, rfl, fun _ => ⟨rfl, rfl⟩⟩
end FK
