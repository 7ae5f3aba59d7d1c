/- The engine in plain data: runs that begin; how much there may be; what is skipped; ticks. -/
import Derived.Test.YtmeegfamopaljaaGreatDoorFiC
namespace FK
theorem Ok.fresh : Ok En.fresh where
  now := by decide
  seed := by decide
  ids := by simp [En.fresh]
  low := by simp [En.fresh]
  six := by simp [En.fresh]
  run := by simp [En.fresh, En.getR]
  tkeys := by simp [En.fresh]
  tlow := by simp [En.fresh]
  tasks := by simp [En.fresh, En.stp, En.getR]
  qnd := by simp [En.fresh]
  queue := by simp [En.fresh, En.stp, En.getR]
  knd := by simp [En.fresh]
  tms := by simp [En.fresh]
theorem find_eraseP {id a : Nat} : ∀ {l : List (Nat × Rn)}, (l.map (·.1)).Nodup → (l.eraseP (·.1 == id)).find? (·.1 == a) = if a = id then none else l.find? (·.1 == a)
  | [], _ => by simp
  | x :: l, hn => by
    simp only [List.map_cons, List.nodup_cons] at hn
    rw [List.eraseP_cons]
    by_cases hx : x.1 = id
    · have : (x.1 == id) = true := by simpa using hx
      rw [this, cond_true]
      by_cases ha : a = id
      · rw [if_pos ha, List.find?_eq_none]
        intro y hy e
        have : y.1 = a := by simpa using e
        exact hn.1 (by rw [hx, ← ha, ← this]; exact List.mem_map_of_mem (f := (·.1)) hy)
      · rw [if_neg ha, List.find?_cons]
        have : (x.1 == a) = false := by simp; omega
        rw [this]
    · have : (x.1 == id) = false := by simpa using hx
      rw [this, cond_false, List.find?_cons, List.find?_cons, find_eraseP hn.2]
      by_cases ha : a = id
      · rw [if_pos ha, if_pos ha]
        have : (x.1 == a) = false := by simp; omega
        rw [this]
      · rw [if_neg ha, if_neg ha]
theorem getR_unrun {S : En} (h : (S.runs.map (·.1)).Nodup) (id a : Nat) : (S.unrun id).getR a = if a = id then none else S.getR a := by
  unfold En.getR En.unrun
  simp only
  rw [find_eraseP h]
  split <;> rfl
theorem Ok.unrun {S : En} (h : Ok S) {id : Nat} {R : Rn} (hR : S.getR id = some R) (hst : R.state ≠ 1) : Ok (S.unrun id) := by
  have hg := getR_unrun h.ids id
  have hover : ∀ (j : Nat) (u : Sp), S.stp id j = some u → u.state = 5 ∨ u.state = 6 ∨ u.state = 7 := fun j u hj => by
    obtain ⟨R1, hR1, h4⟩ := stp_get hj
    rw [hR] at hR1
    injection hR1 with hR1
    subst hR1
    obtain ⟨n, _, hp⟩ := h.node hR h4
    exact hp.over hst
  have hstp : ∀ (a j : Nat), a ≠ id → (S.unrun id).stp a j = S.stp a j := fun a j ha => by
    unfold En.stp
    rw [hg, if_neg ha]
  have hno : ∀ j, (S.unrun id).stp id j = none := fun j => by
    unfold En.stp
    rw [hg, if_pos rfl]
    rfl
  have hsub : (S.unrun id).runs.Sublist S.runs := List.eraseP_sublist
  refine ⟨h.now, h.seed, nodup_sub h.ids hsub, fun i hi => h.low i ((hsub.map _).subset hi), Nat.le_trans hsub.length_le h.six, fun a Ra ha => ?_, h.tkeys, h.tlow, fun t p => ?_, h.qnd, fun p => ?_, h.knd, fun x hx => ?_⟩
  · rw [hg] at ha
    split at ha
    · cases ha
    · exact h.run a Ra ha
  · show (t, p) ∈ S.tasks ↔ _
    rw [h.tasks]
    constructor
    · rintro ⟨a, j, s, rfl, h1, h2, h3⟩
      refine ⟨a, j, s, rfl, ?_, h2, h3⟩
      rw [hstp a j]
      · exact h1
      · rintro rfl
        have := hover j s h1
        omega
    · rintro ⟨a, j, s, rfl, h1, h2, h3⟩
      by_cases ha : a = id
      · subst ha
        rw [hno] at h1
        cases h1
      · rw [hstp a j ha] at h1
        exact ⟨a, j, s, rfl, h1, h2, h3⟩
  · show p ∈ S.queue ↔ _
    rw [h.queue]
    constructor
    · rintro ⟨a, j, s, rfl, h1, h2⟩
      refine ⟨a, j, s, rfl, ?_, h2⟩
      rw [hstp a j]
      · exact h1
      · rintro rfl
        have := hover j s h1
        omega
    · rintro ⟨a, j, s, rfl, h1, h2⟩
      by_cases ha : a = id
      · subst ha
        rw [hno] at h1
        cases h1
      · rw [hstp a j ha] at h1
        exact ⟨a, j, s, rfl, h1, h2⟩
  · obtain ⟨hb, R1, hR1, h1, hat⟩ := h.tms x hx
    refine ⟨hb, R1, ?_, h1, hat⟩
    rw [hg, if_neg]
    · exact hR1
    · intro e
      rw [e, hR] at hR1
      injection hR1 with hR1
      subst hR1
      exact hst h1
def En.roomy (S : En) : Bool := S.runs.any (fun r => decide (0 < r.2.ended)) || decide (S.runs.length < 6)
theorem mem_getR {S : En} (h : (S.runs.map (·.1)).Nodup) {id : Nat} {R : Rn} (hm : (id, R) ∈ S.runs) : S.getR id = some R := by
  unfold En.getR
  cases hf : S.runs.find? (·.1 == id) with
  | none =>
    rw [List.find?_eq_none] at hf
    have := hf _ hm
    simp at this
  | some x =>
    have h2 := List.mem_of_find?_eq_some hf
    have h3 : x.1 = id := by simpa using List.find?_some hf
    have := nodup_eq h h2 hm h3
    rw [this]
    rfl
theorem getR_mem' {S : En} {id : Nat} {R : Rn} (hR : S.getR id = some R) : (id, R) ∈ S.runs := by
  unfold En.getR at hR
  cases hf : S.runs.find? (·.1 == id) with
  | none => rw [hf] at hR; cases hR
  | some x =>
    rw [hf] at hR
    injection hR with hR
    have h2 := List.mem_of_find?_eq_some hf
    have h3 := List.find?_some hf
    obtain ⟨x1, x2⟩ := x
    have : x1 = id := by simpa using h3
    subst this
    have : x2 = R := hR
    subst this
    exact h2
theorem Ok.cut {S S0 : En} (h : Ok S) (hr : S.roomy = true) (hc : Cut S S0) : Ok S0 ∧ S0.runs.length ≤ 5 ∧ S0.lastRun = S.lastRun ∧ S0.queue = S.queue ∧ S0.tms = S.tms ∧ S0.sets = S.sets ∧ S0.now = S.now := by
  unfold Cut at hc
  split at hc
  · rename_i h6
    obtain ⟨o, ⟨ho1, ho2⟩, rfl⟩ := hc
    unfold En.roomy at hr
    rw [h6] at hr
    simp only [Nat.lt_irrefl, decide_false, Bool.or_false, List.any_eq_true, decide_eq_true_eq] at hr
    obtain ⟨r, hr1, hr2⟩ := hr
    obtain ⟨m, rfl, _⟩ := ho2 r hr1 hr2
    obtain ⟨hm1, hm2⟩ := ho1 m rfl
    obtain ⟨id, R⟩ := m
    have hR := mem_getR h.ids hm1
    have hst : R.state ≠ 1 := fun e => by
      have := (h.run id R hR).ended.2 e
      simp only at hm2
      omega
    refine ⟨h.unrun hR hst, ?_, rfl, rfl, rfl, rfl, rfl⟩
    show (S.runs.eraseP (·.1 == id)).length ≤ 5
    rw [List.length_eraseP_of_mem hm1 (by simp)]
    omega
  · subst hc
    have := h.six
    exact ⟨h, by omega, rfl, rfl, rfl, rfl, rfl⟩
theorem begin_get {S : En} (h : Ok S) (fl : Flow) (a : Nat) : (S.begin fl).getR a = if a = S.lastRun + 1 then some (Rn.begun fl) else S.getR a := by
  by_cases ha : a = S.lastRun + 1
  · subst ha
    rw [if_pos rfl]
    exact getR_begin fun r hr => (h.low r.1 (List.mem_map_of_mem (f := (·.1)) hr)).2
  · rw [if_neg ha]
    unfold En.getR En.begin
    simp only
    rw [List.find?_append]
    have : ([(S.lastRun + 1, Rn.begun fl)] : List (Nat × Rn)).find? (·.1 == a) = none := by
      rw [List.find?_eq_none]
      intro r hr
      rw [List.mem_singleton] at hr
      subst hr
      simp
      omega
    rw [this]
    simp
theorem begun_at {fl : Flow} {k : Nat} {s : Sp} (h : (Rn.begun fl).steps[k]? = some s) : s = s1 := by
  have := List.mem_of_getElem? h
  exact List.eq_of_mem_replicate this
theorem Ok.begin {S : En} (h : Ok S) (h5 : S.runs.length ≤ 5) {fl : Flow} (hf : Fit fl) : Ok (S.begin fl) := by
  have hg := begin_get h fl
  have hnew : S.getR (S.lastRun + 1) = none := by
    cases hR : S.getR (S.lastRun + 1) with
    | none => rfl
    | some R =>
      have := (h.low _ (List.mem_map_of_mem (f := (·.1)) (getR_mem' hR))).2
      simp only at this
      omega
  have hstp : ∀ (a j : Nat) (s : Sp), (S.begin fl).stp a j = some s → s = s1 ∨ S.stp a j = some s := fun a j s hs => by
    obtain ⟨R, hR, h4⟩ := stp_get hs
    rw [hg] at hR
    split at hR
    · injection hR with hR
      subst hR
      exact .inl (begun_at h4)
    · exact .inr (stp_of hR h4)
  have hstp2 : ∀ (a j : Nat) (s : Sp), S.stp a j = some s → (S.begin fl).stp a j = some s := fun a j s hs => by
    obtain ⟨R, hR, h4⟩ := stp_get hs
    refine stp_of ?_ h4
    rw [hg, if_neg]
    · exact hR
    · rintro rfl
      rw [hnew] at hR
      cases hR
  refine ⟨h.now, h.seed, ?_, fun i hi => ?_, ?_, fun a Ra ha => ?_, h.tkeys, h.tlow, fun t p => ?_, h.qnd, fun p => ?_, h.knd, fun x hx => ?_⟩
  · show ((S.runs ++ [(S.lastRun + 1, Rn.begun fl)]).map (·.1)).Nodup
    rw [List.map_append, List.nodup_append]
    refine ⟨h.ids, by simp, ?_⟩
    intro x hx y hy
    simp at hy
    subst hy
    have := h.low x hx
    omega
  · show 1 ≤ i ∧ i ≤ S.lastRun + 1
    have hi' : i ∈ (S.runs ++ [(S.lastRun + 1, Rn.begun fl)]).map (·.1) := hi
    rw [List.map_append, List.mem_append] at hi'
    rcases hi' with hi' | hi'
    · have := h.low i hi'
      omega
    · simp at hi'
      omega
  · show (S.runs ++ [_]).length ≤ 6
    simp
    omega
  · rw [hg] at ha
    split at ha
    · injection ha with ha
      subst ha
      refine ⟨hf, by simp [Rn.begun], fun k s n hs hn => ?_, by simp [Rn.begun], Nat.zero_le _⟩
      rw [begun_at hs]
      have hb := (hf.nodes k n (lt_of_some hn) hn).1
      obtain ⟨b1, b2, _⟩ := hb
      exact ⟨by decide, by decide, by decide, by show 0 ≤ n.budget; omega, fun _ => by show 0 < n.budget; omega, fun _ => rfl, fun e => absurd e (by decide), fun _ => rfl, fun e => absurd e (by decide), fun e => absurd rfl e⟩
    · exact h.run a Ra ha
  · show (t, p) ∈ S.tasks ↔ _
    rw [h.tasks]
    constructor
    · rintro ⟨a, j, s, rfl, h1, h2, h3⟩
      exact ⟨a, j, s, rfl, hstp2 a j s h1, h2, h3⟩
    · rintro ⟨a, j, s, rfl, h1, h2, h3⟩
      rcases hstp a j s h1 with rfl | h1
      · exact absurd h2 (by decide)
      · exact ⟨a, j, s, rfl, h1, h2, h3⟩
  · show p ∈ S.queue ↔ _
    rw [h.queue]
    constructor
    · rintro ⟨a, j, s, rfl, h1, h2⟩
      exact ⟨a, j, s, rfl, hstp2 a j s h1, h2⟩
    · rintro ⟨a, j, s, rfl, h1, h2⟩
      rcases hstp a j s h1 with rfl | h1
      · exact absurd h2 (by decide)
      · exact ⟨a, j, s, rfl, h1, h2⟩
  · obtain ⟨hb, R1, hR1, hat⟩ := h.tms x hx
    refine ⟨hb, R1, ?_, hat⟩
    rw [hg, if_neg]
    · exact hR1
    · intro e
      rw [e, hnew] at hR1
      cases hR1
theorem Ok.submit {S : En} (h : Ok S) (h5 : S.runs.length ≤ 5) {fl : Flow} (hf : Fit fl) : Ok (S.submit fl) := by
  have h1 := h.begin h5 hf
  have hg : (S.begin fl).getR (S.lastRun + 1) = some (Rn.begun fl) := by rw [begin_get h, if_pos rfl]
  exact (h1.setT (p := ⟨S.lastRun + 1, -1, 0⟩) (later_le S _) hg ⟨rfl, .inl ⟨rfl, rfl⟩⟩).wake _
theorem nodup_le {α : Type} [DecidableEq α] : ∀ {l m : List α}, l.Nodup → (∀ x ∈ l, x ∈ m) → l.length ≤ m.length
  | [], _, _, _ => Nat.zero_le _
  | x :: l, m, hn, hs => by
    rw [List.nodup_cons] at hn
    have hx := hs x (.head _)
    have := nodup_le (l := l) (m := m.erase x) hn.2 fun y hy => by
      refine (List.mem_erase_of_ne ?_).2 (hs y (.tail _ hy))
      rintro rfl
      exact hn.1 hy
    rw [List.length_erase_of_mem hx] at this
    have := List.length_pos_of_mem hx
    simp only [List.length_cons]
    omega
theorem flat_len {α β : Type} {f : α → List β} {n : Nat} : ∀ (l : List α), (∀ x, (f x).length = n) → (l.flatMap f).length = l.length * n
  | [], _ => by simp
  | x :: l, h => by
    rw [List.flatMap_cons, List.length_append, h, flat_len l h, List.length_cons, Nat.succ_mul, Nat.add_comm]
theorem stp_lt {S : En} (h : Ok S) {id k : Nat} {s : Sp} (hs : S.stp id k = some s) : id ∈ S.runs.map (·.1) ∧ k < 12 := by
  obtain ⟨R, hR, h4⟩ := stp_get hs
  have hr := h.run id R hR
  have := (List.getElem?_eq_some_iff.1 h4).1
  have := hr.fl.head.2.2
  have := hr.len
  exact ⟨List.mem_map_of_mem (f := (·.1)) (getR_mem' hR), by omega⟩
theorem Ok.queueLe {S : En} (h : Ok S) : S.queue.length ≤ 72 := by
  have := nodup_le (m := (S.runs.map (·.1)).flatMap fun i => (List.range 12).map fun (k : Nat) => (⟨i, (k : Int), 0⟩ : Pl)) h.qnd fun p hp => by
    obtain ⟨a, j, s, rfl, h1, h2⟩ := (h.queue p).1 hp
    obtain ⟨h3, h4⟩ := stp_lt h h1
    exact List.mem_flatMap.2 ⟨a, h3, List.mem_map.2 ⟨j, List.mem_range.2 h4, rfl⟩⟩
  rw [flat_len (n := 12) _ (fun _ => by simp)] at this
  have h6 := h.six
  rw [List.length_map] at this
  omega
theorem Ok.tmsLe {S : En} (h : Ok S) : S.tms.length ≤ 150 := by
  have := nodup_le (m := (S.runs.map (·.1)).flatMap fun i => (⟨i, -1, 0⟩ : Pl) :: ((List.range 12).map fun (k : Nat) => (⟨i, (k : Int), 1⟩ : Pl)) ++ (List.range 12).map fun (k : Nat) => (⟨i, (k : Int), 2⟩ : Pl)) h.knd fun p hp => by
    obtain ⟨x, hx, rfl⟩ := List.mem_map.1 hp
    obtain ⟨_, R, hR, _, hat⟩ := h.tms x hx
    obtain ⟨⟨p1, p2, p3⟩, x2⟩ := x
    simp only at hR hat
    refine List.mem_flatMap.2 ⟨p1, List.mem_map_of_mem (f := (·.1)) (getR_mem' hR), ?_⟩
    rcases hat with ⟨rfl, rfl⟩ | ⟨k, s, rfl, h1, h2⟩
    · simp
    · have h12 := (stp_lt h (stp_of hR h1)).2
      rw [List.mem_append, List.mem_cons]
      rcases h2 with ⟨rfl, _⟩ | ⟨rfl, _⟩
      · exact .inl (.inr (List.mem_map.2 ⟨k, List.mem_range.2 h12, rfl⟩))
      · exact .inr (List.mem_map.2 ⟨k, List.mem_range.2 h12, rfl⟩)
  rw [flat_len (n := 25) _ (fun _ => by simp), List.length_map, List.length_map] at this
  have h6 := h.six
  omega
theorem isAt_eq {l l' : List Sp} {k : Nat} {x : Int} (h : l[k]? = l'[k]?) : isAt l k x = isAt l' k x := by
  unfold isAt
  rw [h]
theorem after_any {ns : List Node} {k : Nat} {n : Node} (hn : ns[k]? = some n) (l : List Sp) : (n.after.any fun u => isAt l u.toNat 6 || isAt l u.toNat 7) = true ↔ ∃ u ∈ aft ns k, isAt l u 6 = true ∨ isAt l u 7 = true := by
  unfold aft
  rw [hn]
  simp only [List.any_eq_true, Bool.or_eq_true, List.mem_map]
  constructor
  · rintro ⟨u, h1, h2⟩
    exact ⟨u.toNat, ⟨u, h1, rfl⟩, h2⟩
  · rintro ⟨_, ⟨u, h1, rfl⟩, h2⟩
    exact ⟨u, h1, h2⟩
def Behind (ns : List Node) (T : List Nat) : Prop := T.Nodup ∧ ∀ a i b, T = a ++ i :: b → ∀ u ∈ aft ns i, u ∈ a
theorem skips_at {ns : List Node} {l : List Sp} (hl : l.length = ns.length) : ∀ (m : Nat) (T : List Nat), T.length = m → Behind ns T → ∀ (j : Nat) (s : Sp), l[j]? = some s → (j ∈ T ∧ s.state = 1 ∧ (∃ u ∈ aft ns j, isAt (T.foldl (skipK ns) l) u 6 = true ∨ isAt (T.foldl (skipK ns) l) u 7 = true) → (T.foldl (skipK ns) l)[j]? = some { s with state := 7 }) ∧ (¬ (j ∈ T ∧ s.state = 1 ∧ (∃ u ∈ aft ns j, isAt (T.foldl (skipK ns) l) u 6 = true ∨ isAt (T.foldl (skipK ns) l) u 7 = true)) → (T.foldl (skipK ns) l)[j]? = some s)
  | 0, T, hm, _, j, s, hs => by
    have : T = [] := List.eq_nil_of_length_eq_zero hm
    subst this
    exact ⟨fun h => by simp at h, fun _ => hs⟩
  | m + 1, T, hm, hb, j, s, hs => by
    obtain ⟨a, k, rfl⟩ : ∃ a k, T = a ++ [k] := ⟨T.dropLast, T.getLast (by rintro rfl; simp at hm), (List.dropLast_concat_getLast _).symm⟩
    have hk : k ∉ a := by
      have := hb.1
      rw [List.nodup_append] at this
      intro hk
      exact this.2.2 k hk k (by simp) rfl
    have hba : Behind ns a := ⟨(List.nodup_append.1 hb.1).1, fun x i y e u hu => hb.2 x i (y ++ [k]) (by rw [e]; simp) u hu⟩
    have ih := skips_at hl m a (by simpa using hm) hba
    have hF : (a ++ [k]).foldl (skipK ns) l = skipK ns (a.foldl (skipK ns) l) k := by rw [List.foldl_append]; rfl
    rw [hF]
    obtain ⟨A, hA⟩ : ∃ A, A = a.foldl (skipK ns) l := ⟨_, rfl⟩
    rw [← hA] at ih ⊢
    have hne : ∀ i, i ≠ k → (skipK ns A k)[i]? = A[i]? := fun i hi => by
      unfold skipK
      split
      · split
        · rw [List.getElem?_set_ne (Ne.symm hi)]
        · rfl
      · rfl
    have hafk : ∀ u ∈ aft ns k, u ∈ a := hb.2 a k [] rfl
    have haf : ∀ i ∈ a ++ [k], ∀ u ∈ aft ns i, u ≠ k := fun i hi u hu => by
      rcases List.mem_append.1 hi with hi | hi
      · obtain ⟨x, y, e⟩ := List.append_of_mem hi
        have : u ∈ x := hba.2 x i y e u hu
        rintro rfl
        exact hk (by rw [e]; exact List.mem_append_left _ this)
      · rw [List.mem_singleton] at hi
        subst hi
        rintro rfl
        exact hk (hafk _ hu)
    by_cases hj : j = k
    · subst hj
      have hAj : A[j]? = some s := (ih j s hs).2 (fun h => hk h.1)
      obtain ⟨n, hn⟩ : ∃ n, ns[j]? = some n := ⟨ns[j]'(by rw [← hl]; exact (List.getElem?_eq_some_iff.1 hs).1), by simp⟩
      have hsame : ∀ u ∈ aft ns j, ∀ x, isAt (skipK ns A j) u x = isAt A u x := fun u hu x => isAt_eq (hne u (haf j (by simp) u hu))
      have hex : (∃ u ∈ aft ns j, isAt (skipK ns A j) u 6 = true ∨ isAt (skipK ns A j) u 7 = true) ↔ ∃ u ∈ aft ns j, isAt A u 6 = true ∨ isAt A u 7 = true := by
        constructor
        · rintro ⟨u, hu, h⟩
          rw [hsame u hu, hsame u hu] at h
          exact ⟨u, hu, h⟩
        · rintro ⟨u, hu, h⟩
          refine ⟨u, hu, ?_⟩
          rw [hsame u hu, hsame u hu]
          exact h
      rw [hex]
      have hlt := (List.getElem?_eq_some_iff.1 hAj).1
      unfold skipK
      rw [hAj, hn]
      simp only
      have ha := after_any hn A
      constructor
      · rintro ⟨_, h2, h3⟩
        rw [if_pos ⟨h2, ha.2 h3⟩, List.getElem?_set_self hlt]
      · intro h
        rw [if_neg fun h' => h ⟨by simp, h'.1, ha.1 h'.2⟩]
        exact hAj
    · have hin : j ∈ a ++ [k] ↔ j ∈ a := by simp [hj]
      rw [hin, hne j hj]
      by_cases hja : j ∈ a
      · have hsame : ∀ u ∈ aft ns j, ∀ x, isAt (skipK ns A k) u x = isAt A u x := fun u hu x => isAt_eq (hne u (haf j (by simp [hja]) u hu))
        have hex : (∃ u ∈ aft ns j, isAt (skipK ns A k) u 6 = true ∨ isAt (skipK ns A k) u 7 = true) ↔ ∃ u ∈ aft ns j, isAt A u 6 = true ∨ isAt A u 7 = true := by
          constructor
          · rintro ⟨u, hu, h⟩
            rw [hsame u hu, hsame u hu] at h
            exact ⟨u, hu, h⟩
          · rintro ⟨u, hu, h⟩
            refine ⟨u, hu, ?_⟩
            rw [hsame u hu, hsame u hu]
            exact h
        rw [hex]
        exact ih j s hs
      · refine ⟨fun h => absurd h.1 hja, fun _ => (ih j s hs).2 fun h => hja h.1⟩
theorem skips_eq {ns : List Node} {l : List Sp} (hl : l.length = ns.length) {T T' : List Nat} (hb : Behind ns T) (hb' : Behind ns T') (hT : ∀ j, j < ns.length → j ∈ T) (hT' : ∀ j, j < ns.length → j ∈ T') (hv : ∀ i, ∀ k ∈ aft ns i, k < ns.length) (hac : ∀ i, i < ns.length → Ac ns i) : T.foldl (skipK ns) l = T'.foldl (skipK ns) l := by
  have key : ∀ j, Ac ns j → j < ns.length → (T.foldl (skipK ns) l)[j]? = (T'.foldl (skipK ns) l)[j]? := by
    intro j h
    induction h with
    | mk i _ ih =>
      intro hi
      obtain ⟨s, hs⟩ : ∃ s, l[i]? = some s := ⟨l[i]'(by rw [hl]; exact hi), by simp⟩
      have a1 := skips_at hl T.length T rfl hb i s hs
      have a2 := skips_at hl T'.length T' rfl hb' i s hs
      have hex : (∃ u ∈ aft ns i, isAt (T.foldl (skipK ns) l) u 6 = true ∨ isAt (T.foldl (skipK ns) l) u 7 = true) ↔ ∃ u ∈ aft ns i, isAt (T'.foldl (skipK ns) l) u 6 = true ∨ isAt (T'.foldl (skipK ns) l) u 7 = true := by
        constructor
        · rintro ⟨u, hu, h⟩
          refine ⟨u, hu, ?_⟩
          rw [← isAt_eq (x := 6) (ih u hu (hv i u hu)), ← isAt_eq (x := 7) (ih u hu (hv i u hu))]
          exact h
        · rintro ⟨u, hu, h⟩
          refine ⟨u, hu, ?_⟩
          rw [isAt_eq (x := 6) (ih u hu (hv i u hu)), isAt_eq (x := 7) (ih u hu (hv i u hu))]
          exact h
      by_cases hc : s.state = 1 ∧ ∃ u ∈ aft ns i, isAt (T'.foldl (skipK ns) l) u 6 = true ∨ isAt (T'.foldl (skipK ns) l) u 7 = true
      · rw [a1.1 ⟨hT i hi, hc.1, hex.2 hc.2⟩, a2.1 ⟨hT' i hi, hc⟩]
      · rw [a1.2 fun h => hc ⟨h.2.1, hex.1 h.2.2⟩, a2.2 fun h => hc h.2]
  have hlen : ∀ (T : List Nat), (T.foldl (skipK ns) l).length = ns.length := fun T => by rw [skips_len, hl]
  apply List.ext_getElem?
  intro j
  by_cases hj : j < ns.length
  · exact key j (hac j hj) hj
  · rw [List.getElem?_eq_none (by rw [hlen]; omega), List.getElem?_eq_none (by rw [hlen]; omega)]
noncomputable def topo (ns : List Node) : List Nat := open Classical in if h : ∃ T, Ordering ns 0 T then h.choose else []
theorem aft_fit {f : Flow} (h : Fit f) : ∀ i, ∀ k ∈ aft f.nodes i, k < f.nodes.length := fun i k hk => by
  unfold aft at hk
  split at hk
  · rename_i n hn
    obtain ⟨x, hx, rfl⟩ := List.mem_map.1 hk
    have he := (h.nodes i n (lt_of_some hn) hn).2
    have : ∀ (l : List Int) (p : Int), -1 ≤ p → EdgesOk f.nodes.length p l → ∀ x ∈ l, 0 ≤ x ∧ x < f.nodes.length := by
      intro l
      induction l with
      | nil => intro _ _ _ x hx; simp at hx
      | cons y l ih =>
        intro p hp h x hx
        obtain ⟨h1, h2, h3⟩ := h
        rcases List.mem_cons.1 hx with rfl | hx
        · omega
        · exact ih y (by omega) h3 x hx
    have := this _ _ (by omega) he x hx
    omega
  · cases hk
theorem Ordering.full {ns : List Node} {T : List Nat} (h : Ordering ns 0 T) : (∀ j, j < ns.length → j ∈ T) := fun j hj => by
  refine Classical.byContradiction fun hn => ?_
  have := (h.bits j).2 ⟨hj, hn⟩
  simp at this
theorem Ordering.beh {f : Flow} (hf : Fit f) {left : Nat} {T : List Nat} (h : Ordering f.nodes left T) : Behind f.nodes T := ⟨h.nodup, fun a i b e u hu => h.behind a i b e u hu (aft_fit hf i u hu)⟩
theorem Ordering.zero {f : Flow} (hf : Fit f) {left : Nat} {T : List Nat} (h : Ordering f.nodes left T) (hs : ∀ i, left.testBit i = true → ∃ k ∈ aft f.nodes i, left.testBit k = true) : left = 0 := by
  refine Nat.eq_of_testBit_eq fun i => ?_
  rw [Nat.zero_testBit]
  cases hb : left.testBit i with
  | false => rfl
  | true =>
    have := (h.stuck (aft_fit hf) hs i).1 hb
    exact absurd (hf.ac i this.1) this.2
theorem topo_eq {f : Flow} (hf : Fit f) {left : Nat} {T : List Nat} (h : Ordering f.nodes left T) (hs : ∀ i, left.testBit i = true → ∃ k ∈ aft f.nodes i, left.testBit k = true) (l : List Sp) (hl : l.length = f.nodes.length) : T.foldl (skipK f.nodes) l = (topo f.nodes).foldl (skipK f.nodes) l := by
  have h0 := h.zero hf hs
  subst h0
  have hex : ∃ T, Ordering f.nodes 0 T := ⟨T, h⟩
  have ht : Ordering f.nodes 0 (topo f.nodes) := by
    unfold topo
    rw [dif_pos hex]
    exact hex.choose_spec
  exact skips_eq hl (h.beh hf) (ht.beh hf) h.full ht.full (aft_fit hf) hf.ac
end FK

namespace FK
def waitOf (ba ca ji k seed : Int) : Int := (if k ≤ 1 then ba else if k < 22 then min ca (ba * 2 ^ (k.toNat - 1)) else ca) + seed % (ji + 1)
noncomputable def En.failed (S : En) (id k : Nat) : En := match S.getR id with
  | some R => match R.steps[k]?, R.fl.nodes[k]? with
    | some s, some n => if s.tries < n.budget then S.rests id k R s (waitOf n.base n.cap n.jitter s.tries S.seed).toNat else S.dies id k R s (topo R.fl.nodes)
    | _, _ => S
  | none => S
noncomputable def En.fail (S : En) (t : Nat) : En := match (S.tasks.find? (·.1 == t)).map (·.2) with
  | some p => S.failed p.run p.node.toNat
  | none => S
theorem failed_eq {S : En} {id k : Nat} {R : Rn} {s : Sp} {n : Node} (hR : S.getR id = some R) (hs : R.steps[k]? = some s) (hn : R.fl.nodes[k]? = some n) : S.failed id k = if s.tries < n.budget then S.rests id k R s (waitOf n.base n.cap n.jitter s.tries S.seed).toNat else S.dies id k R s (topo R.fl.nodes) := by
  unfold En.failed
  rw [hR]
  simp only [hs, hn]
theorem Ok.failed {S : En} (h : Ok S) {id k : Nat} {R : Rn} {s : Sp} (hR : S.getR id = some R) (hs : R.steps[k]? = some s) (h3 : s.state = 3) : Ok (S.failed id k) := by
  obtain ⟨n, hn, hp⟩ := h.node hR hs
  rw [failed_eq hR hs hn]
  split
  · rename_i hb
    exact h.rests hR hs hn h3 hb _
  · exact h.dies hR hs hn h3 (by have := hp.trb; omega) _
theorem fail_eq {S : En} {t id k : Nat} {w : Int} (hf : (S.tasks.find? (·.1 == t)).map (·.2) = some ⟨id, (k : Int), w⟩) : S.fail t = S.failed id k := by
  unfold En.fail
  rw [hf]
  rfl
theorem Ok.fail {S : En} (h : Ok S) (t : Nat) : Ok (S.fail t) := by
  cases hf : (S.tasks.find? (·.1 == t)).map (·.2) with
  | none => unfold En.fail; rw [hf]; exact h
  | some p =>
    obtain ⟨id, k, R, s, n, rfl, hR, hs, hn, h3, _⟩ := h.find hf
    rw [fail_eq hf]
    exact h.failed hR hs h3
theorem dies_eq {S : En} (h : Ok S) {id k : Nat} {R : Rn} {s : Sp} (hR : S.getR id = some R) {left : Nat} {T : List Nat} (ho : Ordering R.fl.nodes left T) (hs : ∀ i, left.testBit i = true → ∃ j ∈ aft R.fl.nodes i, left.testBit j = true) : S.dies id k R s T = S.dies id k R s (topo R.fl.nodes) := by
  have hr := h.run id R hR
  unfold En.dies Rn.skips
  have : T.foldl (skipK (R.turned k s 6).fl.nodes) (R.turned k s 6).steps = (topo R.fl.nodes).foldl (skipK (R.turned k s 6).fl.nodes) (R.turned k s 6).steps := topo_eq hr.fl ho hs _ (by simpa [Rn.turned, Rn.setS] using hr.len)
  rw [this]
noncomputable def En.due (S : En) (p : Pl) : En := if p.what = 0 then S.finish p.run 5 else match S.stp p.run p.node.toNat with
  | some s => if s.state = 4 then S.ready p.run p.node.toNat else S.failed p.run p.node.toNat
  | none => S
inductive Ticks (up : Nat) : En → En → Prop where
  | done {S : En} : (∀ y ∈ S.tms, up < y.2) → Ticks up S { S with now := up }
  | step {S U : En} {x : KD} {tms' : List KD} : IsMin S.tms x tms' → x.2 ≤ up → Ticks up ({ S with now := x.2, tms := tms' }.due x.1) U → Ticks up S U
theorem Ticks.unique {up : Nat} {S A B : En} (h : Ticks up S A) : Ticks up S B → A = B := by
  induction h with
  | done h =>
    intro k
    cases k with
    | done _ => rfl
    | step hm hx _ =>
      have := h _ hm.mem
      omega
  | step hm hx _ ih =>
    intro k
    cases k with
    | done h =>
      have := h _ hm.mem
      omega
    | step hm' _ k =>
      obtain ⟨rfl, rfl⟩ := hm.unique hm'
      exact ih k
theorem Ok.pop {S : En} (h : Ok S) {x : KD} {tms' : List KD} (hm : IsMin S.tms x tms') : Ok { S with now := x.2, tms := tms' } ∧ (∀ y ∈ tms', y.1 ≠ x.1) ∧ ∃ R, S.getR x.1.run = some R ∧ TmAt R x.1 := by
  have hp := hm.perm
  have hx := h.tms x hm.mem
  have hk := h.knd
  have hk' : ((x :: tms').map (·.1)).Nodup := (hp.map (·.1)).nodup_iff.1 hk
  rw [List.map_cons, List.nodup_cons] at hk'
  refine ⟨h.times (sets := S.sets) hx.1 hk'.2 fun y hy => h.tms y (hp.mem_iff.2 (.tail _ hy)), fun y hy e => hk'.1 (by rw [← e]; exact List.mem_map_of_mem (f := (·.1)) hy), hx.2⟩
theorem due_cases {S : En} {p : Pl} {R : Rn} (hR : S.getR p.run = some R) (ht : TmAt R p) : (p = ⟨p.run, -1, 0⟩ ∧ S.due p = S.finish p.run 5) ∨ ∃ (k : Nat) (s : Sp), R.steps[k]? = some s ∧ ((p = ⟨p.run, (k : Int), 1⟩ ∧ s.state = 4 ∧ S.due p = S.ready p.run k) ∨ ((p = ⟨p.run, (k : Int), 1⟩ ∨ p = ⟨p.run, (k : Int), 2⟩) ∧ s.state = 3 ∧ S.due p = S.failed p.run k)) := by
  obtain ⟨id, nd, wh⟩ := p
  obtain ⟨_, ⟨h1, h2⟩ | ⟨k, s, h1, h2, h3⟩⟩ := ht
  · simp only at h1 h2
    subst h1; subst h2
    exact .inl ⟨rfl, by unfold En.due; rfl⟩
  · simp only at h1 h2 h3 hR
    subst h1
    have hst := stp_of hR h2
    refine .inr ⟨k, s, h2, ?_⟩
    have hd : wh ≠ 0 → En.due S ⟨id, (k : Int), wh⟩ = if s.state = 4 then S.ready id k else S.failed id k := fun hw => by
      unfold En.due
      simp only [Int.toNat_natCast, hst]
      rw [if_neg hw]
    rcases h3 with ⟨rfl, h4⟩ | ⟨rfl, h4⟩
    · rcases h4 with h4 | h4
      · exact .inr ⟨.inl rfl, h4, by rw [hd (by decide), if_neg (by omega)]⟩
      · exact .inl ⟨rfl, h4, by rw [hd (by decide), if_pos h4]⟩
    · exact .inr ⟨.inr rfl, h4, by rw [hd (by decide), if_neg (by omega)]⟩
theorem Ok.due {S : En} (h : Ok S) {p : Pl} {R : Rn} (hR : S.getR p.run = some R) (ht : TmAt R p) (hno : ∀ y ∈ S.tms, y.1 ≠ p) : Ok (S.due p) := by
  rcases due_cases hR ht with ⟨_, e⟩ | ⟨k, s, hs, ⟨e1, h4, e⟩ | ⟨_, h3, e⟩⟩
  · rw [e]
    exact h.finish hR (by decide)
  · rw [e]
    exact h.ready hR hs (.inr ⟨h4, fun y hy e' => hno y hy (by rw [e', e1])⟩)
  · rw [e]
    exact h.failed hR hs h3
theorem Ticks.ok {up : Nat} {S U : En} (h : Ticks up S U) (hup : up ≤ 4611686018427387904) : Ok S → Ok U := by
  induction h with
  | done _ => exact fun h => h.times (sets := _) hup h.knd h.tms
  | step hm hx _ ih =>
    intro h
    obtain ⟨h1, h2, R, hR, ht⟩ := h.pop hm
    exact ih (h1.due hR ht h2)
def wsp (s : Sp) : Nat := if s.state = 3 then 2 else if s.state = 4 then 1 else 0
def wrn (R : Rn) : Nat := if R.state = 1 then 1 + (R.steps.map wsp).sum else 0
def wor : Option Rn → Nat
  | some R => wrn R
  | none => 0
def En.mass (S : En) : Nat := ((S.runs.map (·.1)).map fun id => wor (S.getR id)).sum
theorem sum_le {l : List Nat} {f g : Nat → Nat} (h : ∀ a ∈ l, f a ≤ g a) : (l.map f).sum ≤ (l.map g).sum := by
  induction l with
  | nil => exact Nat.le_refl _
  | cons x l ih =>
    have h1 := h x (.head _)
    have h2 := ih fun a ha => h a (.tail _ ha)
    simp only [List.map_cons, List.sum_cons]
    omega
theorem sum_lt {l : List Nat} {f g : Nat → Nat} (h : ∀ a ∈ l, f a ≤ g a) {i : Nat} (hi : i ∈ l) (hlt : f i < g i) : (l.map f).sum < (l.map g).sum := by
  induction l with
  | nil => cases hi
  | cons x l ih =>
    have h1 := h x (.head _)
    simp only [List.map_cons, List.sum_cons]
    rcases List.mem_cons.1 hi with rfl | hi
    · have h2 := sum_le fun a ha => h a (.tail _ ha)
      omega
    · have h2 := ih (fun a ha => h a (.tail _ ha)) hi
      omega
theorem mass_lt {S U : En} (hk : U.runs.map (·.1) = S.runs.map (·.1)) {id : Nat} {R R' : Rn} (hR : S.getR id = some R) (hR' : U.getR id = some R') (ho : ∀ a, a ≠ id → U.getR a = S.getR a) (hlt : wrn R' < wrn R) : U.mass < S.mass := by
  unfold En.mass
  rw [hk]
  refine sum_lt (i := id) (fun a _ => ?_) (List.mem_map_of_mem (f := (·.1)) (getR_mem' hR)) ?_
  · by_cases ha : a = id
    · subst ha
      rw [hR, hR']
      exact Nat.le_of_lt hlt
    · rw [ho a ha]
      exact Nat.le_refl _
  · show wor (U.getR id) < wor (S.getR id)
    rw [hR, hR']
    exact hlt
theorem sum_set : ∀ {l : List Sp} {k : Nat} {s s' : Sp}, l[k]? = some s → ((l.set k s').map wsp).sum + wsp s = (l.map wsp).sum + wsp s'
  | [], _, _, _, h => by simp at h
  | x :: l, 0, s, s', h => by
    simp at h
    subst h
    simp only [List.set_cons_zero, List.map_cons, List.sum_cons]
    omega
  | x :: l, k + 1, s, s', h => by
    have := sum_set (l := l) (k := k) (s := s) (s' := s') (by simpa using h)
    simp only [List.set_cons_succ, List.map_cons, List.sum_cons]
    omega
theorem skipK_sum (ns : List Node) (l : List Sp) (k : Nat) : ((skipK ns l k).map wsp).sum = (l.map wsp).sum := by
  unfold skipK
  split
  · rename_i s n hs hn
    split
    · rename_i hc
      have := sum_set (s' := { s with state := 7 }) hs
      have h1 : wsp s = 0 := by unfold wsp; rw [hc.1]; rfl
      have h2 : wsp { s with state := 7 } = 0 := rfl
      omega
    · rfl
  · rfl
theorem skips_sum (ns : List Node) : ∀ (T : List Nat) (l : List Sp), ((T.foldl (skipK ns) l).map wsp).sum = (l.map wsp).sum
  | [], _ => rfl
  | k :: T, l => by rw [List.foldl_cons, skips_sum ns T, skipK_sum]
theorem wsp_le (s : Sp) : wsp s ≤ 2 := by unfold wsp; split <;> (try split) <;> omega
theorem sum_max {α : Type} {f : α → Nat} {n : Nat} (h : ∀ a, f a ≤ n) : ∀ l : List α, (l.map f).sum ≤ l.length * n
  | [] => by simp
  | x :: l => by
    have := sum_max h l
    have := h x
    simp only [List.map_cons, List.sum_cons, List.length_cons, Nat.succ_mul]
    omega
theorem Ok.massLe {S : En} (h : Ok S) : S.mass ≤ 150 := by
  have hw : ∀ a, wor (S.getR a) ≤ 25 := fun a => by
    cases hR : S.getR a with
    | none => exact Nat.zero_le _
    | some R =>
      show wrn R ≤ 25
      have hr := h.run a R hR
      have := sum_max wsp_le R.steps
      have := hr.len
      have := hr.fl.head.2.2
      unfold wrn
      split <;> omega
  have := sum_max hw (S.runs.map (·.1))
  have h6 := h.six
  rw [List.length_map] at this
  unfold En.mass
  omega
theorem settle_cases {S : En} {id : Nat} {R : Rn} (hR : S.getR id = some R) : S.settle id = S ∨ ∃ st, (st = 2 ∨ st = 3) ∧ S.settle id = S.finish id st := by
  unfold En.settle
  rw [hR]
  simp only
  split
  · refine .inr ⟨_, ?_, rfl⟩
    split
    · exact .inl rfl
    · exact .inr rfl
  · exact .inl rfl
structure Less (S U : En) : Prop where
  mass : U.mass < S.mass
  sets : U.sets ≤ S.sets + 1
  ends : U.ends ≤ S.ends + 1
  lastRun : U.lastRun = S.lastRun
  lastToken : U.lastToken = S.lastToken
  now : U.now = S.now
  seed : U.seed = S.seed
theorem Ok.finish_less {S : En} (h : Ok S) {id : Nat} {R : Rn} (hR : S.getR id = some R) (hr : R.state = 1) {st : Int} (hst : st ≠ 1) : Less S (S.finish id st) := by
  have he := h.ended hR st
  obtain ⟨R', g1, g2, g3, g4, g5, g6⟩ := he.run
  refine ⟨mass_lt he.keys hR g1 he.others ?_, by rw [he.sets]; omega, by rw [he.ends]; exact Nat.le_refl _, he.lastRun, he.lastToken, he.now, he.seed⟩
  have h1 : wrn R' = 0 := by unfold wrn; rw [g3, if_neg hst]
  have h2 : 1 ≤ wrn R := by unfold wrn; rw [if_pos hr]; omega
  omega
theorem wrn_set {R : Rn} {k : Nat} {s s' : Sp} (hs : R.steps[k]? = some s) (hr : R.state = 1) (hlt : wsp s' < wsp s) : wrn (R.setS k s') < wrn R := by
  have := sum_set (s' := s') hs
  have h1 : wrn (R.setS k s') = 1 + ((R.steps.set k s').map wsp).sum := by unfold wrn; exact if_pos hr
  have h2 : wrn R = 1 + (R.steps.map wsp).sum := by unfold wrn; rw [if_pos hr]
  omega
theorem Ok.due_less {S : En} (h : Ok S) {p : Pl} {R : Rn} (hR : S.getR p.run = some R) (ht : TmAt R p) : Less S (S.due p) := by
  have hrun := ht.1
  rcases due_cases hR ht with ⟨_, e⟩ | ⟨k, s, hs, ⟨e1, h4, e⟩ | ⟨_, h3, e⟩⟩
  · rw [e]
    exact h.finish_less hR hrun (by decide)
  · rw [e, ready_eq hR hs]
    refine ⟨mass_lt (U := { S.setR p.run (R.setS k { s with state := 2 }) with queue := _ }) setR_keys hR (getR_setR hR) (fun a ha => getR_setR_ne ha) (wrn_set hs hrun ?_), Nat.le_succ _, Nat.le_succ _, rfl, rfl, rfl, rfl⟩
    have h5 : wsp s = 1 := by unfold wsp; rw [h4]; rfl
    rw [h5]
    show 0 < 1
    decide
  · rw [e]
    obtain ⟨n, hn, hp⟩ := h.node hR hs
    rw [failed_eq hR hs hn]
    obtain ⟨id, hid⟩ : ∃ id, id = p.run := ⟨_, rfl⟩
    rw [← hid] at hR ⊢
    have hleave : ∀ (st : Int), (S.leave id k).setR id (R.turned k s st) = { S.setR id (R.setS k ⟨st, s.tries, 0⟩) with tasks := S.tasks.eraseP (·.1 == s.token), tms := (S.tms.filter fun x => x.1 != ⟨id, (k : Int), 1⟩).filter fun x => x.1 != ⟨id, (k : Int), 2⟩ } := fun st => part_eq hR hs
    split
    · have hl4 := hleave 4
      have hle : (S.leave id k).sets = S.sets ∧ (S.leave id k).ends = S.ends ∧ (S.leave id k).lastRun = S.lastRun ∧ (S.leave id k).lastToken = S.lastToken ∧ (S.leave id k).now = S.now ∧ (S.leave id k).seed = S.seed := by
        rw [leave_eq hR hs]
        exact ⟨rfl, rfl, rfl, rfl, rfl, rfl⟩
      refine ⟨?_, by show (S.leave id k).sets + 1 ≤ _; omega, by show (S.leave id k).ends ≤ _; omega, hle.2.2.1, hle.2.2.2.1, hle.2.2.2.2.1, hle.2.2.2.2.2⟩
      refine mass_lt (U := S.rests id k R s _) (id := id) (R := R) (R' := R.setS k ⟨4, s.tries, 0⟩) ?_ hR ?_ (fun a ha => ?_) (wrn_set hs hrun ?_)
      · show ((S.leave id k).setR id (R.turned k s 4)).runs.map (·.1) = _
        rw [hl4]
        exact setR_keys
      · show ((S.leave id k).setR id (R.turned k s 4)).getR id = _
        rw [hl4]
        exact getR_setR hR
      · show ((S.leave id k).setR id (R.turned k s 4)).getR a = _
        rw [hl4]
        exact getR_setR_ne ha
      · have h5 : wsp s = 2 := by unfold wsp; rw [h3]; rfl
        rw [h5]
        show 1 < 2
        decide
    · rename_i hb
      obtain ⟨T, hT⟩ : ∃ T, T = topo R.fl.nodes := ⟨_, rfl⟩
      rw [← hT]
      have hbud : s.tries = n.budget := by have := hp.trb; omega
      obtain ⟨D, hD⟩ : ∃ D, D = (S.leave id k).setR id ((R.turned k s 6).skips T) := ⟨_, rfl⟩
      have hDo : Ok D := by
        have h1 := h.part hR hs hn h3 (st := 6) (.inr (.inr ⟨rfl, hbud⟩))
        have h2 := Ok.skips (id := id) T h1 (getR_part hR hs)
        rw [setR_setR] at h2
        rw [hD]
        exact h2
      have hDe : D = { S.setR id ((R.turned k s 6).skips T) with tasks := S.tasks.eraseP (·.1 == s.token), tms := (S.tms.filter fun x => x.1 != ⟨id, (k : Int), 1⟩).filter fun x => x.1 != ⟨id, (k : Int), 2⟩ } := by
        rw [hD, leave_eq hR hs]
        show ((({ S with tasks := S.tasks.eraseP (·.1 == s.token) }.setR id (R.setS k { s with token := 0 })).setR id _).unset _).unset _ = _
        rw [setR_setR]
        rfl
      have hDg : D.getR id = some ((R.turned k s 6).skips T) := by rw [hDe]; exact getR_setR hR
      have hw : wrn ((R.turned k s 6).skips T) < wrn R := by
        have h1 : wrn ((R.turned k s 6).skips T) = 1 + ((R.turned k s 6).steps.map wsp).sum := by
          unfold wrn Rn.skips
          rw [skips_sum]
          exact if_pos hrun
        have h2 : wrn (R.setS k ⟨6, s.tries, 0⟩) = 1 + ((R.setS k ⟨6, s.tries, 0⟩).steps.map wsp).sum := by unfold wrn; exact if_pos hrun
        have h5 : R.turned k s 6 = R.setS k ⟨6, s.tries, 0⟩ := by unfold Rn.turned; rw [setS_setS]
        rw [h1, h5, ← h2]
        refine wrn_set hs hrun ?_
        have h6 : wsp s = 2 := by unfold wsp; rw [h3]; rfl
        rw [h6]
        show 0 < 2
        decide
      have hm : D.mass < S.mass := mass_lt (by rw [hDe]; exact setR_keys) hR hDg (fun a ha => by rw [hDe]; exact getR_setR_ne ha) hw
      have hset : S.dies id k R s T = D.settle id := by rw [hD]; rfl
      rw [hset]
      have hl : D.sets = S.sets ∧ D.ends = S.ends ∧ D.lastRun = S.lastRun ∧ D.lastToken = S.lastToken ∧ D.now = S.now ∧ D.seed = S.seed := by rw [hDe]; exact ⟨rfl, rfl, rfl, rfl, rfl, rfl⟩
      rcases settle_cases hDg with e | ⟨st, hst, e⟩
      · rw [e]
        exact ⟨hm, by omega, by omega, hl.2.2.1, hl.2.2.2.1, hl.2.2.2.2.1, hl.2.2.2.2.2⟩
      · rw [e]
        have := hDo.finish_less hDg hrun (st := st) (by omega)
        exact ⟨Nat.lt_trans this.mass hm, by have := (hDo.ended hDg st).sets; omega, by have := this.ends; omega, this.lastRun.trans hl.2.2.1, this.lastToken.trans hl.2.2.2.1, this.now.trans hl.2.2.2.2.1, this.seed.trans hl.2.2.2.2.2⟩
end FK

namespace FK
def fifoNode (i : Nat) : Node := ⟨1, 50, 0, 1, 1, 0, if i % 3 = 2 then [((i - 1 : Nat) : Int)] else []⟩
def fifoFlow (n : Nat) : Flow := ⟨100, (List.range n).map fifoNode⟩
theorem fifo_len (n : Nat) : (fifoFlow n).nodes.length = n := by simp [fifoFlow]
theorem fifo_at {n i : Nat} {nd : Node} (h : (fifoFlow n).nodes[i]? = some nd) : i < n ∧ nd = fifoNode i := by
  have hi := (List.getElem?_eq_some_iff.1 h).1
  rw [fifo_len] at hi
  refine ⟨hi, ?_⟩
  unfold fifoFlow at h
  rw [List.getElem?_map, List.getElem?_range hi] at h
  simpa using h.symm
theorem fifo_get {n i : Nat} (h : i < n) : (fifoFlow n).nodes[i]? = some (fifoNode i) := by
  unfold fifoFlow
  rw [List.getElem?_map, List.getElem?_range h]
  rfl
theorem fifo_aft {n i : Nat} (h : i < n) : aft (fifoFlow n).nodes i = if i % 3 = 2 then [i - 1] else [] := by
  unfold aft
  rw [fifo_get h]
  unfold fifoNode
  simp only
  split <;> simp
theorem fifo_fit {n : Nat} (h1 : 1 ≤ n) (h2 : n ≤ 12) : Fit (fifoFlow n) := by
  refine ⟨⟨by unfold fifoFlow span; simp, by rw [fifo_len]; exact h1, by rw [fifo_len]; exact h2⟩, fun j nd _ hj => ?_, fun i hi => ?_⟩
  · obtain ⟨hj, rfl⟩ := fifo_at hj
    refine ⟨by unfold fifoNode NodeOk span; simp, ?_⟩
    rw [fifo_len]
    unfold fifoNode
    simp only
    split
    · exact ⟨by omega, by omega, trivial⟩
    · exact trivial
  · rw [fifo_len] at hi
    refine .mk i fun k hk => ?_
    rw [fifo_aft hi] at hk
    split at hk
    · rename_i h3
      rw [List.mem_singleton] at hk
      subst hk
      refine .mk _ fun u hu => ?_
      rw [fifo_aft (by omega), if_neg (by omega)] at hu
      simp at hu
    · simp at hk
structure FRun (n : Nat) (R : Rn) : Prop where
  fl : R.fl = fifoFlow n
  len : R.steps.length = n
  a : ∀ (j : Nat) (s : Sp), R.steps[j]? = some s → j % 3 ≠ 2 → s.state = 2 ∨ s.state = 5
  b : ∀ (j : Nat) (s : Sp), R.steps[j]? = some s → j % 3 = 2 → (s.state = 1 ∧ isAt R.steps (j - 1) 2 = true) ∨ ((s.state = 2 ∨ s.state = 5) ∧ isAt R.steps (j - 1) 5 = true)
  t : ∀ (j : Nat) (s : Sp), R.steps[j]? = some s → s.state = 2 → s = ⟨2, 0, 0⟩
  w : ∀ (j : Nat) (s : Sp), R.steps[j]? = some s → s.state = 1 → s = ⟨1, 0, 0⟩
theorem freeAt_fifo {n : Nat} {R : Rn} (hf : R.fl = fifoFlow n) {j : Nat} {s : Sp} (hs : R.steps[j]? = some s) (hj : j < n) : freeAt R j = (s.state == 1 && (if j % 3 = 2 then isAt R.steps (j - 1) 5 else true)) := by
  rw [freeAt_eq (nd := fifoNode j) hs (by rw [hf]; exact fifo_get hj)]
  unfold fifoNode
  simp only
  split <;> simp
def fsteps (m n : Nat) : List Sp := (List.range n).map fun j => if j < m ∧ j % 3 ≠ 2 then ⟨2, 0, 0⟩ else ⟨1, 0, 0⟩
def fready (id m : Nat) : List Pl := ((List.range m).filter (fun j => j % 3 != 2)).map fun (j : Nat) => (⟨id, (j : Int), 0⟩ : Pl)
theorem fsteps_at {m n j : Nat} (h : j < n) : (fsteps m n)[j]? = some (if j < m ∧ j % 3 ≠ 2 then ⟨2, 0, 0⟩ else ⟨1, 0, 0⟩) := by
  unfold fsteps
  rw [List.getElem?_map, List.getElem?_range h]
  rfl
theorem fsteps_len (m n : Nat) : (fsteps m n).length = n := by simp [fsteps]
theorem fsteps_skip {m n : Nat} (h : m % 3 = 2) : fsteps (m + 1) n = fsteps m n := by
  unfold fsteps
  refine List.map_congr_left fun j _ => ?_
  by_cases hc : j < m ∧ j % 3 ≠ 2
  · rw [if_pos hc, if_pos ⟨by omega, hc.2⟩]
  · rw [if_neg hc, if_neg]
    rintro ⟨h1, h2⟩
    exact hc ⟨by omega, h2⟩
theorem fsteps_set {m n : Nat} (h : m % 3 ≠ 2) (hm : m < n) : (fsteps m n).set m ⟨2, 0, 0⟩ = fsteps (m + 1) n := by
  apply List.ext_getElem?
  intro j
  by_cases hj : j < n
  · by_cases hjm : j = m
    · subst hjm
      rw [List.getElem?_set_self (by rw [fsteps_len]; exact hj), fsteps_at hj, if_pos ⟨by omega, h⟩]
    · rw [List.getElem?_set_ne (Ne.symm hjm), fsteps_at hj, fsteps_at hj]
      by_cases hc : j < m ∧ j % 3 ≠ 2
      · rw [if_pos hc, if_pos ⟨by omega, hc.2⟩]
      · rw [if_neg hc, if_neg]
        rintro ⟨h1, h2⟩
        exact hc ⟨by omega, h2⟩
  · rw [List.getElem?_eq_none (by rw [List.length_set, fsteps_len]; omega), List.getElem?_eq_none (by rw [fsteps_len]; omega)]
theorem fready_skip {id m : Nat} (h : m % 3 = 2) : fready id (m + 1) = fready id m := by
  unfold fready
  rw [List.range_succ, List.filter_append]
  simp [h]
theorem fready_snoc {id m : Nat} (h : m % 3 ≠ 2) : fready id (m + 1) = fready id m ++ [⟨id, (m : Int), 0⟩] := by
  unfold fready
  rw [List.range_succ, List.filter_append, List.map_append]
  simp [h]
theorem begun_steps (n : Nat) : (Rn.begun (fifoFlow n)).steps = fsteps 0 n := by
  unfold Rn.begun fsteps
  simp only [fifo_len, Nat.not_lt_zero, false_and, if_false]
  rw [List.map_const', List.length_range]
theorem fifo_wakes {S : En} {id n : Nat} (hR : S.getR id = some (Rn.begun (fifoFlow n))) : ∀ m, m ≤ n → (S.wakeN id m).getR id = some { Rn.begun (fifoFlow n) with steps := fsteps m n } ∧ (S.wakeN id m).queue = S.queue ++ fready id m ∧ (∀ a, a ≠ id → (S.wakeN id m).getR a = S.getR a) ∧ (S.wakeN id m).lastRun = S.lastRun ∧ (S.wakeN id m).runs.length = S.runs.length ∧ (S.wakeN id m).sets = S.sets ∧ (S.wakeN id m).now = S.now ∧ (S.wakeN id m).lastToken = S.lastToken ∧ (S.wakeN id m).ends = S.ends
  | 0, _ => by
    refine ⟨?_, by simp [En.wakeN, fready], fun _ _ => rfl, rfl, rfl, rfl, rfl, rfl, rfl⟩
    show S.getR id = _
    rw [hR, ← begun_steps]
  | m + 1, hm => by
    obtain ⟨h1, h2, h3, h4, h5, h6, h7, h8, h9⟩ := fifo_wakes hR m (by omega)
    have hs := fsteps_at (m := m) (n := n) (j := m) (by omega)
    rw [if_neg (by omega)] at hs
    rw [wakeN_succ, wakeK_eq h1, freeAt_fifo (n := n) rfl hs (by omega)]
    by_cases h32 : m % 3 = 2
    · rw [if_pos h32]
      have : isAt (fsteps m n) (m - 1) 5 = false := by
        unfold isAt
        rw [fsteps_at (by omega)]
        show ((if m - 1 < m ∧ (m - 1) % 3 ≠ 2 then (⟨2, 0, 0⟩ : Sp) else ⟨1, 0, 0⟩).state == 5) = false
        by_cases hc : m - 1 < m ∧ (m - 1) % 3 ≠ 2
        · rw [if_pos hc]; rfl
        · rw [if_neg hc]; rfl
      rw [show isAt ({ Rn.begun (fifoFlow n) with steps := fsteps m n } : Rn).steps (m - 1) 5 = false from this]
      simp only [Bool.and_false, Bool.false_eq_true, if_false]
      rw [fsteps_skip h32, fready_skip h32]
      exact ⟨h1, h2, h3, h4, h5, h6, h7, h8, h9⟩
    · rw [if_neg h32]
      rw [if_pos (show (((⟨1, 0, 0⟩ : Sp).state == 1) && true) = true from rfl)]
      rw [ready_eq h1 hs]
      refine ⟨?_, ?_, fun a ha => ?_, h4, ?_, h6, h7, h8, h9⟩
      · have := getR_setR (R' := ({ Rn.begun (fifoFlow n) with steps := fsteps m n } : Rn).setS m { (⟨1, 0, 0⟩ : Sp) with state := 2 }) h1
        refine this.trans ?_
        unfold Rn.setS
        rw [← fsteps_set h32 (by omega)]
      · show (S.wakeN id m).queue ++ _ = _
        rw [h2, fready_snoc h32, List.append_assoc]
      · show ((S.wakeN id m).setR id _).getR a = _
        rw [getR_setR_ne ha, h3 a ha]
      · show ((S.wakeN id m).setR id _).runs.length = _
        unfold En.setR
        rw [List.length_map, h5]
theorem FRun.begun {n : Nat} : FRun n { Rn.begun (fifoFlow n) with steps := fsteps n n } := by
  refine ⟨rfl, fsteps_len n n, fun j s hs h3 => ?_, fun j s hs h3 => ?_, fun j s hs h2 => ?_, fun j s hs h2 => ?_⟩
  · have hj : j < n := by have := (List.getElem?_eq_some_iff.1 hs).1; rwa [fsteps_len] at this
    have hs' : (fsteps n n)[j]? = some s := hs
    rw [fsteps_at hj, if_pos ⟨hj, h3⟩] at hs'
    injection hs' with hs'
    subst hs'
    exact .inl rfl
  · have hj : j < n := by have := (List.getElem?_eq_some_iff.1 hs).1; rwa [fsteps_len] at this
    have hs' : (fsteps n n)[j]? = some s := hs
    rw [fsteps_at hj, if_neg (by omega)] at hs'
    injection hs' with hs'
    subst hs'
    refine .inl ⟨rfl, ?_⟩
    show isAt (fsteps n n) (j - 1) 2 = true
    unfold isAt
    rw [fsteps_at (by omega), if_pos (by omega)]
    rfl
  · have hj : j < n := by have := (List.getElem?_eq_some_iff.1 hs).1; rwa [fsteps_len] at this
    have hs' : (fsteps n n)[j]? = some s := hs
    rw [fsteps_at hj] at hs'
    injection hs' with hs'
    subst hs'
    split at h2
    · rename_i hc; rw [if_pos hc]
    · exact absurd h2 (by decide)
  · have hj : j < n := by have := (List.getElem?_eq_some_iff.1 hs).1; rwa [fsteps_len] at this
    have hs' : (fsteps n n)[j]? = some s := hs
    rw [fsteps_at hj] at hs'
    injection hs' with hs'
    subst hs'
    split at h2
    · exact absurd h2 (by decide)
    · rename_i hc; rw [if_neg hc]
theorem isAt_set {l : List Sp} {k : Nat} {s : Sp} {x : Int} (h : k < l.length) : isAt (l.set k s) k x = (s.state == x) := by
  unfold isAt
  rw [List.getElem?_set_self h]
def fnext (id n k : Nat) : List Pl := if k % 3 = 1 ∧ k + 1 < n then [⟨id, ((k + 1 : Nat) : Int), 0⟩] else []
theorem FRun.wakes {T : En} {id n k : Nat} {R : Rn} (hF : FRun n R) {s : Sp} (hs : R.steps[k]? = some s) (h2 : s.state = 2) {tr : Int} (hT : T.getR id = some { R with steps := R.steps.set k ⟨5, tr, 0⟩ }) : ∀ m, m ≤ n → (T.wakeN id m).getR id = some { R with steps := if k % 3 = 1 ∧ k + 1 < m then (R.steps.set k ⟨5, tr, 0⟩).set (k + 1) ⟨2, 0, 0⟩ else R.steps.set k ⟨5, tr, 0⟩ } ∧ (T.wakeN id m).queue = T.queue ++ (if k % 3 = 1 ∧ k + 1 < m then [⟨id, ((k + 1 : Nat) : Int), 0⟩] else []) ∧ (∀ a, a ≠ id → (T.wakeN id m).getR a = T.getR a) ∧ (T.wakeN id m).lastRun = T.lastRun ∧ (T.wakeN id m).runs.length = T.runs.length ∧ (T.wakeN id m).sets = T.sets ∧ (T.wakeN id m).now = T.now ∧ (T.wakeN id m).lastToken = T.lastToken ∧ (T.wakeN id m).ends = T.ends
  | 0, _ => by
    rw [if_neg (by omega), if_neg (by omega)]
    exact ⟨hT, (List.append_nil _).symm, fun _ _ => rfl, rfl, rfl, rfl, rfl, rfl, rfl⟩
  | m + 1, hm => by
    obtain ⟨h1, h3, h4, h5, h6, h7, h8, h9, h10⟩ := FRun.wakes hF hs h2 hT m (by omega)
    have hkl := (List.getElem?_eq_some_iff.1 hs).1
    have hlen := hF.len
    obtain ⟨u, hu⟩ : ∃ u, R.steps[m]? = some u := ⟨R.steps[m]'(by omega), by simp⟩
    rw [wakeN_succ, wakeK_eq h1]
    by_cases hmk : k % 3 = 1 ∧ m = k + 1
    · obtain ⟨hk3, rfl⟩ := hmk
      have hnl : ¬ (k % 3 = 1 ∧ k + 1 < k + 1) := by omega
      have hyl : k % 3 = 1 ∧ k + 1 < k + 1 + 1 := ⟨hk3, by omega⟩
      rw [if_neg hnl] at h1 h3
      simp only [if_pos hyl, if_neg hnl]
      have hl : ({ R with steps := R.steps.set k ⟨5, tr, 0⟩ } : Rn).steps[k + 1]? = some u := by
        show (R.steps.set k _)[k + 1]? = _
        rw [List.getElem?_set_ne (by omega)]
        exact hu
      have hu1 : u = ⟨1, 0, 0⟩ := by
        rcases hF.b (k + 1) u hu (by omega) with ⟨h, _⟩ | ⟨_, h⟩
        · exact hF.w _ u hu h
        · rw [show k + 1 - 1 = k by omega, isAt_some hs, h2] at h
          exact absurd h (by decide)
      subst hu1
      rw [freeAt_fifo (n := n) (R := { R with steps := R.steps.set k ⟨5, tr, 0⟩ }) hF.fl hl (by omega), if_pos (show (k + 1) % 3 = 2 by omega)]
      rw [show isAt ({ R with steps := R.steps.set k ⟨5, tr, 0⟩ } : Rn).steps (k + 1 - 1) 5 = true from by
        show isAt (R.steps.set k ⟨5, tr, 0⟩) (k + 1 - 1) 5 = true
        rw [show k + 1 - 1 = k by omega, isAt_set hkl]
        rfl]
      rw [if_pos (show (((⟨1, 0, 0⟩ : Sp).state == 1) && true) = true from rfl), ready_eq h1 hl]
      refine ⟨getR_setR h1, ?_, fun a ha => ?_, h5, ?_, h7, h8, h9, h10⟩
      · show (T.wakeN id (k + 1)).queue ++ _ = _
        rw [h3, List.append_nil]
      · show ((T.wakeN id (k + 1)).setR id _).getR a = _
        rw [getR_setR_ne ha, h4 a ha]
      · show ((T.wakeN id (k + 1)).setR id _).runs.length = _
        unfold En.setR
        rw [List.length_map, h6]
    · have hcond : (k % 3 = 1 ∧ k + 1 < m + 1) ↔ (k % 3 = 1 ∧ k + 1 < m) := by
        constructor
        · rintro ⟨a, b⟩
          exact ⟨a, by have : m ≠ k + 1 := fun e => hmk ⟨a, e⟩; omega⟩
        · rintro ⟨a, b⟩
          exact ⟨a, by omega⟩
      simp only [hcond]
      have hno : freeAt { R with steps := if k % 3 = 1 ∧ k + 1 < m then (R.steps.set k ⟨5, tr, 0⟩).set (k + 1) ⟨2, 0, 0⟩ else R.steps.set k ⟨5, tr, 0⟩ } m = false := by
        obtain ⟨L, hL⟩ : ∃ L, L = if k % 3 = 1 ∧ k + 1 < m then (R.steps.set k ⟨5, tr, 0⟩).set (k + 1) ⟨2, 0, 0⟩ else R.steps.set k ⟨5, tr, 0⟩ := ⟨_, rfl⟩
        rw [← hL]
        have hLne : ∀ j, j ≠ k → (k % 3 = 1 → j ≠ k + 1) → L[j]? = R.steps[j]? := fun j h1 h2 => by
          rw [hL]
          split
          · rename_i hc
            rw [List.getElem?_set_ne (Ne.symm (h2 hc.1)), List.getElem?_set_ne (Ne.symm h1)]
          · rw [List.getElem?_set_ne (Ne.symm h1)]
        by_cases hmk2 : m = k
        · subst hmk2
          have : L[m]? = some ⟨5, tr, 0⟩ := by
            rw [hL, if_neg (by omega), List.getElem?_set_self hkl]
          rw [freeAt_fifo (n := n) (R := { R with steps := L }) hF.fl this (by omega)]
          rfl
        · have hLm : L[m]? = some u := by rw [hLne m hmk2 (fun h e => hmk ⟨h, e⟩)]; exact hu
          rw [freeAt_fifo (n := n) (R := { R with steps := L }) hF.fl hLm (by omega)]
          by_cases hu1 : u.state = 1
          · by_cases hm3 : m % 3 = 2
            · rw [if_pos hm3]
              rcases hF.b m u hu hm3 with ⟨_, h⟩ | ⟨h, _⟩
              · have hx : isAt L (m - 1) 5 = false := by
                  rw [isAt_eq (l' := R.steps) (hLne (m - 1) (by intro e; exact hmk ⟨by omega, by omega⟩) (by intro _ e; omega))]
                  obtain ⟨v, hv, hv2⟩ := isAt_le h
                  rw [isAt_some hv, hv2]
                  rfl
                show (u.state == 1 && isAt L (m - 1) 5) = false
                rw [hx, Bool.and_false]
              · omega
            · have := hF.a m u hu hm3
              omega
          · have : (u.state == 1) = false := by simpa using hu1
            rw [this, Bool.false_and]
      rw [hno]
      simp only [Bool.false_eq_true, if_false]
      exact ⟨h1, h3, h4, h5, h6, h7, h8, h9, h10⟩
theorem FRun.done {n k : Nat} {R : Rn} (hF : FRun n R) {s : Sp} (hs : R.steps[k]? = some s) (h2 : s.state = 2) (tr : Int) : FRun n { R with steps := if k % 3 = 1 ∧ k + 1 < n then (R.steps.set k ⟨5, tr, 0⟩).set (k + 1) ⟨2, 0, 0⟩ else R.steps.set k ⟨5, tr, 0⟩ } := by
  have hkl := (List.getElem?_eq_some_iff.1 hs).1
  have hlen := hF.len
  obtain ⟨L, hL⟩ : ∃ L, L = if k % 3 = 1 ∧ k + 1 < n then (R.steps.set k ⟨5, tr, 0⟩).set (k + 1) ⟨2, 0, 0⟩ else R.steps.set k ⟨5, tr, 0⟩ := ⟨_, rfl⟩
  rw [← hL]
  have hLne : ∀ j, j ≠ k → (k % 3 = 1 → j ≠ k + 1) → L[j]? = R.steps[j]? := fun j h1 h2 => by
    rw [hL]
    split
    · rename_i hc
      rw [List.getElem?_set_ne (Ne.symm (h2 hc.1)), List.getElem?_set_ne (Ne.symm h1)]
    · rw [List.getElem?_set_ne (Ne.symm h1)]
  have hLk : L[k]? = some ⟨5, tr, 0⟩ := by
    rw [hL]
    split
    · rw [List.getElem?_set_ne (by omega), List.getElem?_set_self hkl]
    · rw [List.getElem?_set_self hkl]
  have hLk1 : k % 3 = 1 → k + 1 < n → L[k + 1]? = some ⟨2, 0, 0⟩ := fun h1 h3 => by
    rw [hL, if_pos ⟨h1, h3⟩, List.getElem?_set_self (by rw [List.length_set]; omega)]
  have hLl : L.length = n := by
    rw [hL]
    split <;> simp [hlen]
  have hcase : ∀ (j : Nat) (u : Sp), L[j]? = some u → (j = k ∧ u = ⟨5, tr, 0⟩) ∨ (k % 3 = 1 ∧ j = k + 1 ∧ u = ⟨2, 0, 0⟩) ∨ (j ≠ k ∧ (k % 3 = 1 → j ≠ k + 1) ∧ R.steps[j]? = some u) := fun j u hj => by
    have hjn : j < n := by rw [← hLl]; exact (List.getElem?_eq_some_iff.1 hj).1
    by_cases h1 : j = k
    · subst h1
      rw [hLk] at hj
      injection hj with hj
      exact .inl ⟨rfl, hj.symm⟩
    · by_cases h3 : k % 3 = 1 ∧ j = k + 1
      · obtain ⟨h3, rfl⟩ := h3
        rw [hLk1 h3 hjn] at hj
        injection hj with hj
        exact .inr (.inl ⟨h3, rfl, hj.symm⟩)
      · have h4 : k % 3 = 1 → j ≠ k + 1 := fun a b => h3 ⟨a, b⟩
        rw [hLne j h1 h4] at hj
        exact .inr (.inr ⟨h1, h4, hj⟩)
  refine ⟨hF.fl, hLl, fun j u hj h3 => ?_, fun j u hj h3 => ?_, fun j u hj h3 => ?_, fun j u hj h3 => ?_⟩
  · rcases hcase j u hj with ⟨_, rfl⟩ | ⟨_, _, rfl⟩ | ⟨_, _, h⟩
    · exact .inr rfl
    · exact .inl rfl
    · exact hF.a j u h h3
  · show (u.state = 1 ∧ isAt L (j - 1) 2 = true) ∨ _ ∧ isAt L (j - 1) 5 = true
    rcases hcase j u hj with ⟨rfl, rfl⟩ | ⟨h1, rfl, rfl⟩ | ⟨h1, h4, h⟩
    · refine .inr ⟨.inr rfl, ?_⟩
      rw [isAt_eq (l' := R.steps) (hLne (j - 1) (by omega) (by intro _ e; omega))]
      rcases hF.b j s hs h3 with ⟨h, _⟩ | ⟨_, h⟩
      · omega
      · exact h
    · refine .inr ⟨.inl rfl, ?_⟩
      rw [show k + 1 - 1 = k by omega, isAt_some hLk]
      rfl
    · have hne : j - 1 ≠ k := fun e => h4 (by omega) (by omega)
      have hsame := hLne (j - 1) hne (by intro _ e; omega)
      rw [isAt_eq (l' := R.steps) hsame, isAt_eq (l' := R.steps) hsame]
      exact hF.b j u h h3
  · rcases hcase j u hj with ⟨_, rfl⟩ | ⟨_, _, rfl⟩ | ⟨_, _, h⟩
    · exact absurd (show (5 : Int) = 2 from h3) (by decide)
    · rfl
    · exact hF.t j u h h3
  · rcases hcase j u hj with ⟨_, rfl⟩ | ⟨_, _, rfl⟩ | ⟨_, _, h⟩
    · exact absurd (show (5 : Int) = 1 from h3) (by decide)
    · exact absurd (show (2 : Int) = 1 from h3) (by decide)
    · exact hF.w j u h h3
end FK
