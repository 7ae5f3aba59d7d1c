/- The engine in plain data: runs that begin; how much there may be; what is skipped; ticks. -/
import Derived.Test.YtmeegfamopaljaaGreatDoorHnA
namespace FK
section
variable {T : List Nat} {ns : List Node} {f : Flow} {S : En} {k : Nat} {l : List Sp}
theorem Ok.fresh : Ok En.fresh where
 now := by decide
 seed := by decide
 ids := by simp [En.fresh]
 low := by simp [En.fresh]
 six := by simp [En.fresh]
 run := by simp [En.fresh, En.getR]
 tkeys := by simp [En.fresh]
 tlow := by simp [En.fresh]
 CI := by simp [En.fresh, En.stp, En.getR]
 qnd := by simp [En.fresh]
 CH := by simp [En.fresh, En.stp, En.getR]
 knd := by simp [En.fresh]
 tms := by simp [En.fresh]
def En.roomy (S : En) : Bool := S.runs.any (fun r => decide (0 < r.2.ended)) || decide (S.runs.length < 6)
theorem i1 {id : Nat} {R : Rn} (hR : S.getR id = some R) : (id, R) ∈ S.runs := by
 unfold En.getR at hR
 cases hf : S.runs.find? (·.1 == id) with
 | none => rw [hf] at hR; cases hR
 | some x =>
  rw [hf] at hR
  injection hR with hR
  have h2 := List.mem_of_find?_eq_some hf
  have h3 := List.find?_some hf
  obtain ⟨x1, x2⟩ := x
  have : x1 = id := by simpa using h3
  subst this
  have : x2 = R := hR
  subst this
  exact h2
theorem me (h : Ok S) (fl : Flow) (a : Nat) : (S.begin fl).getR a = if a = S.CD + 1 then some (Rn.begun fl) else S.getR a := by
 by_cases ha : a = S.CD + 1
 · subst ha
   rw [if_pos rfl]
   exact oC fun r hr => (h.low r.1 (List.mem_map_of_mem (f := (·.1)) hr)).2
 · rw [if_neg ha]
   unfold En.getR En.begin
   simp only
   rw [List.find?_append]
   have : ([(S.CD + 1, Rn.begun fl)] : List (Nat × Rn)).find? (·.1 == a) = none := by
    rw [List.find?_eq_none]
    intro r hr
    rw [List.mem_singleton] at hr
    subst hr
    simp
    omega
   rw [this]
   simp
theorem nZ {fl : Flow} {s : Sp} (h : (Rn.begun fl).CF[k]? = some s) : s = s1 := by
 have := List.mem_of_getElem? h
 exact List.eq_of_mem_replicate this
theorem Ok.begin {S : En} (h : Ok S) (h5 : S.runs.length ≤ 5) {fl : Flow} (hf : Fit fl) : Ok (S.begin fl) := by
 have hg := me h fl
 have hnew : S.getR (S.CD + 1) = none := by
  cases hR : S.getR (S.CD + 1) with
  | none => rfl
  | some R =>
   have := (h.low _ (List.mem_map_of_mem (f := (·.1)) (i1 hR))).2
   simp only at this
   omega
 have hstp : ∀ (a j : Nat) (s : Sp), (S.begin fl).stp a j = some s → s = s1 ∨ S.stp a j = some s := fun a j s hs => by
  obtain ⟨R, hR, h4⟩ := iq hs
  rw [hg] at hR
  split at hR
  · injection hR with hR
    subst hR
    exact .inl (nZ h4)
  · exact .inr (fC hR h4)
 have hstp2 : ∀ (a j : Nat) (s : Sp), S.stp a j = some s → (S.begin fl).stp a j = some s := fun a j s hs => by
  obtain ⟨R, hR, h4⟩ := iq hs
  refine fC ?_ h4
  rw [hg, if_neg]
  · exact hR
  · rintro rfl
    rw [hnew] at hR
    cases hR
 refine ⟨h.now, h.seed, ?_, fun i hi => ?_, ?_, fun a Ra ha => ?_, h.tkeys, h.tlow, fun t p => ?_, h.qnd, fun p => ?_, h.knd, fun x hx => ?_⟩
 · show ((S.runs ++ [(S.CD + 1, Rn.begun fl)]).map (·.1)).Nodup
   rw [List.map_append, List.nodup_append]
   refine ⟨h.ids, by simp, ?_⟩
   intro x hx y hy
   simp at hy
   subst hy
   have := h.low x hx
   omega
 · show 1 ≤ i ∧ i ≤ S.CD + 1
   have hi' : i ∈ (S.runs ++ [(S.CD + 1, Rn.begun fl)]).map (·.1) := hi
   rw [List.map_append, List.mem_append] at hi'
   rcases hi' with hi' | hi'
   · have := h.low i hi'
     omega
   · simp at hi'
     omega
 · show (S.runs ++ [_]).length ≤ 6
   simp
   omega
 · rw [hg] at ha
   split at ha
   · injection ha with ha
     subst ha
     refine ⟨hf, by simp [Rn.begun], fun k s n hs hn => ?_, by simp [Rn.begun], Nat.zero_le _⟩
     rw [nZ hs]
     have hb := (hf.CG k n (bU hn) hn).1
     obtain ⟨b1, b2, _⟩ := hb
     exact ⟨by decide, by decide, by decide, by show 0 ≤ n.CJ; omega, fun _ => by show 0 < n.CJ; omega, fun _ => rfl, fun e => absurd e (by decide), fun _ => rfl, fun e => absurd e (by decide), fun e => absurd rfl e⟩
   · exact h.run a Ra ha
 · show (t, p) ∈ S.CI ↔ _
   rw [h.CI]
   constructor
   · rintro ⟨a, j, s, rfl, h1, h2, h3⟩
     exact ⟨a, j, s, rfl, hstp2 a j s h1, h2, h3⟩
   · rintro ⟨a, j, s, rfl, h1, h2, h3⟩
     rcases hstp a j s h1 with rfl | h1
     · exact absurd h2 (by decide)
     · exact ⟨a, j, s, rfl, h1, h2, h3⟩
 · show p ∈ S.CH ↔ _
   rw [h.CH]
   constructor
   · rintro ⟨a, j, s, rfl, h1, h2⟩
     exact ⟨a, j, s, rfl, hstp2 a j s h1, h2⟩
   · rintro ⟨a, j, s, rfl, h1, h2⟩
     rcases hstp a j s h1 with rfl | h1
     · exact absurd h2 (by decide)
     · exact ⟨a, j, s, rfl, h1, h2⟩
 · obtain ⟨hb, R1, hR1, hat⟩ := h.tms x hx
   refine ⟨hb, R1, ?_, hat⟩
   rw [hg, if_neg]
   · exact hR1
   · intro e
     rw [e, hnew] at hR1
     cases hR1
theorem Ok.submit {S : En} (h : Ok S) (h5 : S.runs.length ≤ 5) {fl : Flow} (hf : Fit fl) : Ok (S.submit fl) := by
 have h1 := h.begin h5 hf
 have hg : (S.begin fl).getR (S.CD + 1) = some (Rn.begun fl) := by rw [me h, if_pos rfl]
 exact (h1.setT (p := ⟨S.CD + 1, -1, 0⟩) (jP S _) hg ⟨rfl, .inl ⟨rfl, rfl⟩⟩).wake _
theorem lu {α : Type} [DecidableEq α] : ∀ {l m : List α}, l.Nodup → (∀ x ∈ l, x ∈ m) → l.length ≤ m.length
 | [], _, _, _ => Nat.zero_le _
 | x :: l, m, hn, hs => by
  rw [List.nodup_cons] at hn
  have hx := hs x (.head _)
  have := lu (l := l) (m := m.erase x) hn.2 fun y hy => by
   refine (List.mem_erase_of_ne ?_).2 (hs y (.tail _ hy))
   rintro rfl
   exact hn.1 hy
  rw [List.length_erase_of_mem hx] at this
  have := List.length_pos_of_mem hx
  simp only [List.length_cons]
  omega
theorem flat_len {α β : Type} {f : α → List β} {n : Nat} : ∀ (l : List α), (∀ x, (f x).length = n) → (l.flatMap f).length = l.length * n
 | [], _ => by simp
 | x :: l, h => by
  rw [List.flatMap_cons, List.length_append, h, flat_len l h, List.length_cons, Nat.succ_mul, Nat.add_comm]
theorem yj (h : Ok S) {id : Nat} {s : Sp} (hs : S.stp id k = some s) : id ∈ S.runs.map (·.1) ∧ k < 12 := by
 obtain ⟨R, hR, h4⟩ := iq hs
 have hr := h.run id R hR
 have := (List.getElem?_eq_some_iff.1 h4).1
 have := hr.fl.head.2.2
 have := hr.len
 exact ⟨List.mem_map_of_mem (f := (·.1)) (i1 hR), by omega⟩
theorem Ok.queueLe (h : Ok S) : S.CH.length ≤ 72 := by
 have := lu (m := (S.runs.map (·.1)).flatMap fun i => (List.range 12).map fun (k : Nat) => (⟨i, (k : Int), 0⟩ : Pl)) h.qnd fun p hp => by
  obtain ⟨a, j, s, rfl, h1, h2⟩ := (h.CH p).1 hp
  obtain ⟨h3, h4⟩ := yj h h1
  exact List.mem_flatMap.2 ⟨a, h3, List.mem_map.2 ⟨j, List.mem_range.2 h4, rfl⟩⟩
 rw [flat_len (n := 12) _ (fun _ => by simp)] at this
 have h6 := h.six
 rw [List.length_map] at this
 omega
theorem Ok.tmsLe (h : Ok S) : S.tms.length ≤ 150 := by
 have := lu (m := (S.runs.map (·.1)).flatMap fun i => (⟨i, -1, 0⟩ : Pl) :: ((List.range 12).map fun (k : Nat) => (⟨i, (k : Int), 1⟩ : Pl)) ++ (List.range 12).map fun (k : Nat) => (⟨i, (k : Int), 2⟩ : Pl)) h.knd fun p hp => by
  obtain ⟨x, hx, rfl⟩ := List.mem_map.1 hp
  obtain ⟨_, R, hR, _, hat⟩ := h.tms x hx
  obtain ⟨⟨p1, p2, p3⟩, x2⟩ := x
  simp only at hR hat
  refine List.mem_flatMap.2 ⟨p1, List.mem_map_of_mem (f := (·.1)) (i1 hR), ?_⟩
  rcases hat with ⟨rfl, rfl⟩ | ⟨k, s, rfl, h1, h2⟩
  · simp
  · have h12 := (yj h (fC hR h1)).2
    rw [List.mem_append, List.mem_cons]
    rcases h2 with ⟨rfl, _⟩ | ⟨rfl, _⟩
    · exact .inl (.inr (List.mem_map.2 ⟨k, List.mem_range.2 h12, rfl⟩))
    · exact .inr (List.mem_map.2 ⟨k, List.mem_range.2 h12, rfl⟩)
 rw [flat_len (n := 25) _ (fun _ => by simp), List.length_map, List.length_map] at this
 have h6 := h.six
 omega
theorem jd {l' : List Sp} {x : Int} (h : l[k]? = l'[k]?) : bS l k x = bS l' k x := by
 unfold bS
 rw [h]
theorem xN {n : Node} (hn : ns[k]? = some n) (l : List Sp) : (n.after.any fun u => bS l u.toNat 6 || bS l u.toNat 7) = true ↔ ∃ u ∈ dg ns k, bS l u 6 = true ∨ bS l u 7 = true := by
 unfold dg
 rw [hn]
 simp only [List.any_eq_true, Bool.or_eq_true, List.mem_map]
 constructor
 · rintro ⟨u, h1, h2⟩
   exact ⟨u.toNat, ⟨u, h1, rfl⟩, h2⟩
 · rintro ⟨_, ⟨u, h1, rfl⟩, h2⟩
   exact ⟨u, h1, h2⟩
def nA (ns : List Node) (T : List Nat) : Prop := T.Nodup ∧ ∀ a i b, T = a ++ i :: b → ∀ u ∈ dg ns i, u ∈ a
theorem lm {ns : List Node} {l : List Sp} (hl : l.length = ns.length) : ∀ (m : Nat) (T : List Nat), T.length = m → nA ns T → ∀ (j : Nat) (s : Sp), l[j]? = some s → (j ∈ T ∧ s.state = 1 ∧ (∃ u ∈ dg ns j, bS (T.foldl (bY ns) l) u 6 = true ∨ bS (T.foldl (bY ns) l) u 7 = true) → (T.foldl (bY ns) l)[j]? = some { s with state := 7 }) ∧ (¬ (j ∈ T ∧ s.state = 1 ∧ (∃ u ∈ dg ns j, bS (T.foldl (bY ns) l) u 6 = true ∨ bS (T.foldl (bY ns) l) u 7 = true)) → (T.foldl (bY ns) l)[j]? = some s)
 | 0, T, hm, _, j, s, hs => by
  have : T = [] := List.eq_nil_of_length_eq_zero hm
  subst this
  exact ⟨fun h => by simp at h, fun _ => hs⟩
 | m + 1, T, hm, hb, j, s, hs => by
  obtain ⟨a, k, rfl⟩ : ∃ a k, T = a ++ [k] := ⟨T.dropLast, T.getLast (by rintro rfl; simp at hm), (List.dropLast_concat_getLast _).symm⟩
  have hk : k ∉ a := by
   have := hb.1
   rw [List.nodup_append] at this
   intro hk
   exact this.2.2 k hk k (by simp) rfl
  have hba : nA ns a := ⟨(List.nodup_append.1 hb.1).1, fun x i y e u hu => hb.2 x i (y ++ [k]) (by rw [e]; simp) u hu⟩
  have ih := lm hl m a (by simpa using hm) hba
  have hF : (a ++ [k]).foldl (bY ns) l = bY ns (a.foldl (bY ns) l) k := by rw [List.foldl_append]; rfl
  rw [hF]
  obtain ⟨A, hA⟩ : ∃ A, A = a.foldl (bY ns) l := ⟨_, rfl⟩
  rw [← hA] at ih ⊢
  have hne : ∀ i, i ≠ k → (bY ns A k)[i]? = A[i]? := fun i hi => by
   unfold bY
   split
   · split
     · rw [List.getElem?_set_ne (Ne.symm hi)]
     · rfl
   · rfl
  have hafk : ∀ u ∈ dg ns k, u ∈ a := hb.2 a k [] rfl
  have haf : ∀ i ∈ a ++ [k], ∀ u ∈ dg ns i, u ≠ k := fun i hi u hu => by
   rcases List.mem_append.1 hi with hi | hi
   · obtain ⟨x, y, e⟩ := List.append_of_mem hi
     have : u ∈ x := hba.2 x i y e u hu
     rintro rfl
     exact hk (by rw [e]; exact List.mem_append_left _ this)
   · rw [List.mem_singleton] at hi
     subst hi
     rintro rfl
     exact hk (hafk _ hu)
  by_cases hj : j = k
  · subst hj
    have hAj : A[j]? = some s := (ih j s hs).2 (fun h => hk h.1)
    obtain ⟨n, hn⟩ : ∃ n, ns[j]? = some n := ⟨ns[j]'(by rw [← hl]; exact (List.getElem?_eq_some_iff.1 hs).1), by simp⟩
    have hsame : ∀ u ∈ dg ns j, ∀ x, bS (bY ns A j) u x = bS A u x := fun u hu x => jd (hne u (haf j (by simp) u hu))
    have hex : (∃ u ∈ dg ns j, bS (bY ns A j) u 6 = true ∨ bS (bY ns A j) u 7 = true) ↔ ∃ u ∈ dg ns j, bS A u 6 = true ∨ bS A u 7 = true := by
     constructor
     · rintro ⟨u, hu, h⟩
       rw [hsame u hu, hsame u hu] at h
       exact ⟨u, hu, h⟩
     · rintro ⟨u, hu, h⟩
       refine ⟨u, hu, ?_⟩
       rw [hsame u hu, hsame u hu]
       exact h
    rw [hex]
    have hlt := (List.getElem?_eq_some_iff.1 hAj).1
    unfold bY
    rw [hAj, hn]
    simp only
    have ha := xN hn A
    constructor
    · rintro ⟨_, h2, h3⟩
      rw [if_pos ⟨h2, ha.2 h3⟩, List.getElem?_set_self hlt]
    · intro h
      rw [if_neg fun h' => h ⟨by simp, h'.1, ha.1 h'.2⟩]
      exact hAj
  · have hin : j ∈ a ++ [k] ↔ j ∈ a := by simp [hj]
    rw [hin, hne j hj]
    by_cases hja : j ∈ a
    · have hsame : ∀ u ∈ dg ns j, ∀ x, bS (bY ns A k) u x = bS A u x := fun u hu x => jd (hne u (haf j (by simp [hja]) u hu))
      have hex : (∃ u ∈ dg ns j, bS (bY ns A k) u 6 = true ∨ bS (bY ns A k) u 7 = true) ↔ ∃ u ∈ dg ns j, bS A u 6 = true ∨ bS A u 7 = true := by
       constructor
       · rintro ⟨u, hu, h⟩
         rw [hsame u hu, hsame u hu] at h
         exact ⟨u, hu, h⟩
       · rintro ⟨u, hu, h⟩
         refine ⟨u, hu, ?_⟩
         rw [hsame u hu, hsame u hu]
         exact h
      rw [hex]
      exact ih j s hs
    · refine ⟨fun h => absurd h.1 hja, fun _ => (ih j s hs).2 fun h => hja h.1⟩
theorem yQ (hl : l.length = ns.length) {T' : List Nat} (hb : nA ns T) (hb' : nA ns T') (hT : ∀ j, j < ns.length → j ∈ T) (hT' : ∀ j, j < ns.length → j ∈ T') (hv : ∀ i, ∀ k ∈ dg ns i, k < ns.length) (hac : ∀ i, i < ns.length → Ac ns i) : T.foldl (bY ns) l = T'.foldl (bY ns) l := by
 have key : ∀ j, Ac ns j → j < ns.length → (T.foldl (bY ns) l)[j]? = (T'.foldl (bY ns) l)[j]? := by
  intro j h
  induction h with
  | mk i _ ih =>
   intro hi
   obtain ⟨s, hs⟩ : ∃ s, l[i]? = some s := ⟨l[i]'(by rw [hl]; exact hi), by simp⟩
   have a1 := lm hl T.length T rfl hb i s hs
   have a2 := lm hl T'.length T' rfl hb' i s hs
   have hex : (∃ u ∈ dg ns i, bS (T.foldl (bY ns) l) u 6 = true ∨ bS (T.foldl (bY ns) l) u 7 = true) ↔ ∃ u ∈ dg ns i, bS (T'.foldl (bY ns) l) u 6 = true ∨ bS (T'.foldl (bY ns) l) u 7 = true := by
    constructor
    · rintro ⟨u, hu, h⟩
      refine ⟨u, hu, ?_⟩
      rw [← jd (x := 6) (ih u hu (hv i u hu)), ← jd (x := 7) (ih u hu (hv i u hu))]
      exact h
    · rintro ⟨u, hu, h⟩
      refine ⟨u, hu, ?_⟩
      rw [jd (x := 6) (ih u hu (hv i u hu)), jd (x := 7) (ih u hu (hv i u hu))]
      exact h
   by_cases hc : s.state = 1 ∧ ∃ u ∈ dg ns i, bS (T'.foldl (bY ns) l) u 6 = true ∨ bS (T'.foldl (bY ns) l) u 7 = true
   · rw [a1.1 ⟨hT i hi, hc.1, hex.2 hc.2⟩, a2.1 ⟨hT' i hi, hc⟩]
   · rw [a1.2 fun h => hc ⟨h.2.1, hex.1 h.2.2⟩, a2.2 fun h => hc h.2]
 have hlen : ∀ (T : List Nat), (T.foldl (bY ns) l).length = ns.length := fun T => by rw [ka, hl]
 apply List.ext_getElem?
 intro j
 by_cases hj : j < ns.length
 · exact key j (hac j hj) hj
 · rw [List.getElem?_eq_none (by rw [hlen]; omega), List.getElem?_eq_none (by rw [hlen]; omega)]
noncomputable def np (ns : List Node) : List Nat := open Classical in if h : ∃ T, Ordering ns 0 T then h.choose else []
theorem qJ (h : Fit f) : ∀ i, ∀ k ∈ dg f.CG i, k < f.CG.length := fun i k hk => by
 unfold dg at hk
 split at hk
 · rename_i n hn
   obtain ⟨x, hx, rfl⟩ := List.mem_map.1 hk
   have he := (h.CG i n (bU hn) hn).2
   have : ∀ (l : List Int) (p : Int), -1 ≤ p → EdgesOk f.CG.length p l → ∀ x ∈ l, 0 ≤ x ∧ x < f.CG.length := by
    intro l
    induction l with
    | nil => intro _ _ _ x hx; simp at hx
    | cons y l ih =>
     intro p hp h x hx
     obtain ⟨h1, h2, h3⟩ := h
     rcases List.mem_cons.1 hx with rfl | hx
     · omega
     · exact ih y (by omega) h3 x hx
   have := this _ _ (by omega) he x hx
   omega
 · cases hk
theorem Ordering.full (h : Ordering ns 0 T) : (∀ j, j < ns.length → j ∈ T) := fun j hj => by
 refine Classical.byContradiction fun hn => ?_
 have := (h.bits j).2 ⟨hj, hn⟩
 simp at this
theorem Ordering.beh (hf : Fit f) {left : Nat} (h : Ordering f.CG left T) : nA f.CG T := ⟨h.nodup, fun a i b e u hu => h.behind a i b e u hu (qJ hf i u hu)⟩
theorem Ordering.zero (hf : Fit f) {left : Nat} (h : Ordering f.CG left T) (hs : ∀ i, left.testBit i = true → ∃ k ∈ dg f.CG i, left.testBit k = true) : left = 0 := by
 refine Nat.eq_of_testBit_eq fun i => ?_
 rw [Nat.zero_testBit]
 cases hb : left.testBit i with
 | false => rfl
 | true =>
  have := (h.stuck (qJ hf) hs i).1 hb
  exact absurd (hf.ac i this.1) this.2
theorem Aw (hf : Fit f) {left : Nat} (h : Ordering f.CG left T) (hs : ∀ i, left.testBit i = true → ∃ k ∈ dg f.CG i, left.testBit k = true) (l : List Sp) (hl : l.length = f.CG.length) : T.foldl (bY f.CG) l = (np f.CG).foldl (bY f.CG) l := by
 have h0 := h.zero hf hs
 subst h0
 have hex : ∃ T, Ordering f.CG 0 T := ⟨T, h⟩
 have ht : Ordering f.CG 0 (np f.CG) := by
  unfold np
  rw [dif_pos hex]
  exact hex.choose_spec
 exact yQ hl (h.beh hf) (ht.beh hf) h.full ht.full (qJ hf) hf.ac
end
end FK

namespace FK
def dk (ba ca ji k seed : Int) : Int := (if k ≤ 1 then ba else if k < 22 then min ca (ba * 2 ^ (k.toNat - 1)) else ca) + seed % (ji + 1)
noncomputable def En.failed (S : En) (id k : Nat) : En := match S.getR id with
 | some R => match R.CF[k]?, R.fl.CG[k]? with
  | some s, some n => if s.CE < n.CJ then S.rests id k R s (dk n.base n.cap n.CK s.CE S.seed).toNat else S.dies id k R s (np R.fl.CG)
  | _, _ => S
 | none => S
noncomputable def En.fail (S : En) (t : Nat) : En := match (S.CI.find? (·.1 == t)).map (·.2) with
 | some p => S.failed p.run p.node.toNat
 | none => S
theorem gS {S : En} {id k : Nat} {R : Rn} {s : Sp} {n : Node} (hR : S.getR id = some R) (hs : R.CF[k]? = some s) (hn : R.fl.CG[k]? = some n) : S.failed id k = if s.CE < n.CJ then S.rests id k R s (dk n.base n.cap n.CK s.CE S.seed).toNat else S.dies id k R s (np R.fl.CG) := by
 unfold En.failed
 rw [hR]
 simp only [hs, hn]
theorem Ok.failed {S : En} (h : Ok S) {id k : Nat} {R : Rn} {s : Sp} (hR : S.getR id = some R) (hs : R.CF[k]? = some s) (h3 : s.state = 3) : Ok (S.failed id k) := by
 obtain ⟨n, hn, hp⟩ := h.node hR hs
 rw [gS hR hs hn]
 split
 · rename_i hb
   exact h.rests hR hs hn h3 hb _
 · exact h.dies hR hs hn h3 (by have := hp.trb; omega) _
theorem li {S : En} {t id k : Nat} {w : Int} (hf : (S.CI.find? (·.1 == t)).map (·.2) = some ⟨id, (k : Int), w⟩) : S.fail t = S.failed id k := by
 unfold En.fail
 rw [hf]
 rfl
theorem Ok.fail {S : En} (h : Ok S) (t : Nat) : Ok (S.fail t) := by
 cases hf : (S.CI.find? (·.1 == t)).map (·.2) with
 | none => unfold En.fail; rw [hf]; exact h
 | some p =>
  obtain ⟨id, k, R, s, n, rfl, hR, hs, hn, h3, _⟩ := h.find hf
  rw [li hf]
  exact h.failed hR hs h3
theorem Bp {S : En} (h : Ok S) {id k : Nat} {R : Rn} {s : Sp} (hR : S.getR id = some R) {left : Nat} {T : List Nat} (ho : Ordering R.fl.CG left T) (hs : ∀ i, left.testBit i = true → ∃ j ∈ dg R.fl.CG i, left.testBit j = true) : S.dies id k R s T = S.dies id k R s (np R.fl.CG) := by
 have hr := h.run id R hR
 unfold En.dies Rn.skips
 have : T.foldl (bY (R.turned k s 6).fl.CG) (R.turned k s 6).CF = (np R.fl.CG).foldl (bY (R.turned k s 6).fl.CG) (R.turned k s 6).CF := Aw hr.fl ho hs _ (by simpa [Rn.turned, Rn.setS] using hr.len)
 rw [this]
noncomputable def En.due (S : En) (p : Pl) : En := if p.what = 0 then S.finish p.run 5 else match S.stp p.run p.node.toNat with
 | some s => if s.state = 4 then S.ready p.run p.node.toNat else S.failed p.run p.node.toNat
 | none => S
inductive Ticks (up : Nat) : En → En → Prop where
 | done {S : En} : (∀ y ∈ S.tms, up < y.2) → Ticks up S { S with now := up }
 | step {S U : En} {x : KD} {tms' : List KD} : IsMin S.tms x tms' → x.2 ≤ up → Ticks up ({ S with now := x.2, tms := tms' }.due x.1) U → Ticks up S U
section
variable {S : En} {f : Nat → Nat} {l : List Nat} {R : Rn}
theorem Ticks.unique {up : Nat} {S A B : En} (h : Ticks up S A) : Ticks up S B → A = B := by
 induction h with
 | done h =>
  intro k
  cases k with
  | done _ => rfl
  | step hm hx _ =>
   have := h _ hm.mem
   omega
 | step hm hx _ ih =>
  intro k
  cases k with
  | done h =>
   have := h _ hm.mem
   omega
  | step hm' _ k =>
   obtain ⟨rfl, rfl⟩ := hm.unique hm'
   exact ih k
theorem Ok.pop (h : Ok S) {x : KD} {tms' : List KD} (hm : IsMin S.tms x tms') : Ok { S with now := x.2, tms := tms' } ∧ (∀ y ∈ tms', y.1 ≠ x.1) ∧ ∃ R, S.getR x.1.run = some R ∧ wb R x.1 := by
 have hp := hm.perm
 have hx := h.tms x hm.mem
 have hk := h.knd
 have hk' : ((x :: tms').map (·.1)).Nodup := (hp.map (·.1)).nodup_iff.1 hk
 rw [List.map_cons, List.nodup_cons] at hk'
 refine ⟨h.times (sets := S.sets) hx.1 hk'.2 fun y hy => h.tms y (hp.mem_iff.2 (.tail _ hy)), fun y hy e => hk'.1 (by rw [← e]; exact List.mem_map_of_mem (f := (·.1)) hy), hx.2⟩
theorem i7 {p : Pl} (hR : S.getR p.run = some R) (ht : wb R p) : (p = ⟨p.run, -1, 0⟩ ∧ S.due p = S.finish p.run 5) ∨ ∃ (k : Nat) (s : Sp), R.CF[k]? = some s ∧ ((p = ⟨p.run, (k : Int), 1⟩ ∧ s.state = 4 ∧ S.due p = S.ready p.run k) ∨ ((p = ⟨p.run, (k : Int), 1⟩ ∨ p = ⟨p.run, (k : Int), 2⟩) ∧ s.state = 3 ∧ S.due p = S.failed p.run k)) := by
 obtain ⟨id, nd, wh⟩ := p
 obtain ⟨_, ⟨h1, h2⟩ | ⟨k, s, h1, h2, h3⟩⟩ := ht
 · simp only at h1 h2
   subst h1; subst h2
   exact .inl ⟨rfl, by unfold En.due; rfl⟩
 · simp only at h1 h2 h3 hR
   subst h1
   have hst := fC hR h2
   refine .inr ⟨k, s, h2, ?_⟩
   have hd : wh ≠ 0 → En.due S ⟨id, (k : Int), wh⟩ = if s.state = 4 then S.ready id k else S.failed id k := fun hw => by
    unfold En.due
    simp only [Int.toNat_natCast, hst]
    rw [if_neg hw]
   rcases h3 with ⟨rfl, h4⟩ | ⟨rfl, h4⟩
   · rcases h4 with h4 | h4
     · exact .inr ⟨.inl rfl, h4, by rw [hd (by decide), if_neg (by omega)]⟩
     · exact .inl ⟨rfl, h4, by rw [hd (by decide), if_pos h4]⟩
   · exact .inr ⟨.inr rfl, h4, by rw [hd (by decide), if_neg (by omega)]⟩
theorem Ok.due {S : En} (h : Ok S) {p : Pl} {R : Rn} (hR : S.getR p.run = some R) (ht : wb R p) (hno : ∀ y ∈ S.tms, y.1 ≠ p) : Ok (S.due p) := by
 rcases i7 hR ht with ⟨_, e⟩ | ⟨k, s, hs, ⟨e1, h4, e⟩ | ⟨_, h3, e⟩⟩
 · rw [e]
   exact h.finish hR (by decide)
 · rw [e]
   exact h.ready hR hs (.inr ⟨h4, fun y hy e' => hno y hy (by rw [e', e1])⟩)
 · rw [e]
   exact h.failed hR hs h3
theorem Ticks.ok {up : Nat} {U : En} (h : Ticks up S U) (hup : up ≤ 4611686018427387904) : Ok S → Ok U := by
 induction h with
 | done _ => exact fun h => h.times (sets := _) hup h.knd h.tms
 | step hm hx _ ih =>
  intro h
  obtain ⟨h1, h2, R, hR, ht⟩ := h.pop hm
  exact ih (h1.due hR ht h2)
def mo (s : Sp) : Nat := if s.state = 3 then 2 else if s.state = 4 then 1 else 0
def oO (R : Rn) : Nat := if R.state = 1 then 1 + (R.CF.map mo).sum else 0
def wor : Option Rn → Nat
 | some R => oO R
 | none => 0
def En.mass (S : En) : Nat := ((S.runs.map (·.1)).map fun id => wor (S.getR id)).sum
theorem B4 {g : Nat → Nat} (h : ∀ a ∈ l, f a ≤ g a) : (l.map f).sum ≤ (l.map g).sum := by
 induction l with
 | nil => exact Nat.le_refl _
 | cons x l ih =>
  have h1 := h x (.head _)
  have h2 := ih fun a ha => h a (.tail _ ha)
  simp only [List.map_cons, List.sum_cons]
  omega
theorem B3 {g : Nat → Nat} (h : ∀ a ∈ l, f a ≤ g a) {i : Nat} (hi : i ∈ l) (hlt : f i < g i) : (l.map f).sum < (l.map g).sum := by
 induction l with
 | nil => cases hi
 | cons x l ih =>
  have h1 := h x (.head _)
  simp only [List.map_cons, List.sum_cons]
  rcases List.mem_cons.1 hi with rfl | hi
  · have h2 := B4 fun a ha => h a (.tail _ ha)
    omega
  · have h2 := ih (fun a ha => h a (.tail _ ha)) hi
    omega
theorem na {U : En} (hk : U.runs.map (·.1) = S.runs.map (·.1)) {id : Nat} {R' : Rn} (hR : S.getR id = some R) (hR' : U.getR id = some R') (ho : ∀ a, a ≠ id → U.getR a = S.getR a) (hlt : oO R' < oO R) : U.mass < S.mass := by
 unfold En.mass
 rw [hk]
 refine B3 (i := id) (fun a _ => ?_) (List.mem_map_of_mem (f := (·.1)) (i1 hR)) ?_
 · by_cases ha : a = id
   · subst ha
     rw [hR, hR']
     exact Nat.le_of_lt hlt
   · rw [ho a ha]
     exact Nat.le_refl _
 · show wor (U.getR id) < wor (S.getR id)
   rw [hR, hR']
   exact hlt
theorem qr : ∀ {l : List Sp} {k : Nat} {s s' : Sp}, l[k]? = some s → ((l.set k s').map mo).sum + mo s = (l.map mo).sum + mo s'
 | [], _, _, _, h => by simp at h
 | x :: l, 0, s, s', h => by
  simp at h
  subst h
  simp only [List.set_cons_zero, List.map_cons, List.sum_cons]
  omega
 | x :: l, k + 1, s, s', h => by
  have := qr (l := l) (k := k) (s := s) (s' := s') (by simpa using h)
  simp only [List.set_cons_succ, List.map_cons, List.sum_cons]
  omega
theorem wy (ns : List Node) (l : List Sp) (k : Nat) : ((bY ns l k).map mo).sum = (l.map mo).sum := by
 unfold bY
 split
 · rename_i s n hs hn
   split
   · rename_i hc
     have := qr (s' := { s with state := 7 }) hs
     have h1 : mo s = 0 := by unfold mo; rw [hc.1]; rfl
     have h2 : mo { s with state := 7 } = 0 := rfl
     omega
   · rfl
 · rfl
theorem pr (ns : List Node) : ∀ (T : List Nat) (l : List Sp), ((T.foldl (bY ns) l).map mo).sum = (l.map mo).sum
 | [], _ => rfl
 | k :: T, l => by rw [List.foldl_cons, pr ns T, wy]
theorem BT (s : Sp) : mo s ≤ 2 := by unfold mo; split <;> (try split) <;> omega
theorem qs {α : Type} {f : α → Nat} {n : Nat} (h : ∀ a, f a ≤ n) : ∀ l : List α, (l.map f).sum ≤ l.length * n
 | [] => by simp
 | x :: l => by
  have := qs h l
  have := h x
  simp only [List.map_cons, List.sum_cons, List.length_cons, Nat.succ_mul]
  omega
theorem Ok.massLe (h : Ok S) : S.mass ≤ 150 := by
 have hw : ∀ a, wor (S.getR a) ≤ 25 := fun a => by
  cases hR : S.getR a with
  | none => exact Nat.zero_le _
  | some R =>
   show oO R ≤ 25
   have hr := h.run a R hR
   have := qs BT R.CF
   have := hr.len
   have := hr.fl.head.2.2
   unfold oO
   split <;> omega
 have := qs hw (S.runs.map (·.1))
 have h6 := h.six
 rw [List.length_map] at this
 unfold En.mass
 omega
theorem qO {id : Nat} (hR : S.getR id = some R) : S.settle id = S ∨ ∃ st, (st = 2 ∨ st = 3) ∧ S.settle id = S.finish id st := by
 unfold En.settle
 rw [hR]
 simp only
 split
 · refine .inr ⟨_, ?_, rfl⟩
   split
   · exact .inl rfl
   · exact .inr rfl
 · exact .inl rfl
end
structure Less (S U : En) : Prop where
 mass : U.mass < S.mass
 sets : U.sets ≤ S.sets + 1
 ends : U.ends ≤ S.ends + 1
 CD : U.CD = S.CD
 CC : U.CC = S.CC
 now : U.now = S.now
 seed : U.seed = S.seed
theorem Ok.finish_less {S : En} (h : Ok S) {id : Nat} {R : Rn} (hR : S.getR id = some R) (hr : R.state = 1) {st : Int} (hst : st ≠ 1) : Less S (S.finish id st) := by
 have he := h.ended hR st
 obtain ⟨R', g1, g2, g3, g4, g5, g6⟩ := he.run
 refine ⟨na he.keys hR g1 he.others ?_, by rw [he.sets]; omega, by rw [he.ends]; exact Nat.le_refl _, he.CD, he.CC, he.now, he.seed⟩
 have h1 : oO R' = 0 := by unfold oO; rw [g3, if_neg hst]
 have h2 : 1 ≤ oO R := by unfold oO; rw [if_pos hr]; omega
 omega
theorem qp {R : Rn} {k : Nat} {s s' : Sp} (hs : R.CF[k]? = some s) (hr : R.state = 1) (hlt : mo s' < mo s) : oO (R.setS k s') < oO R := by
 have := qr (s' := s') hs
 have h1 : oO (R.setS k s') = 1 + ((R.CF.set k s').map mo).sum := by unfold oO; exact if_pos hr
 have h2 : oO R = 1 + (R.CF.map mo).sum := by unfold oO; rw [if_pos hr]
 omega
theorem Ok.due_less {S : En} (h : Ok S) {p : Pl} {R : Rn} (hR : S.getR p.run = some R) (ht : wb R p) : Less S (S.due p) := by
 have hrun := ht.1
 rcases i7 hR ht with ⟨_, e⟩ | ⟨k, s, hs, ⟨e1, h4, e⟩ | ⟨_, h3, e⟩⟩
 · rw [e]
   exact h.finish_less hR hrun (by decide)
 · rw [e, hZ hR hs]
   refine ⟨na (U := { S.setR p.run (R.setS k { s with state := 2 }) with CH := _ }) setR_keys hR (ch hR) (fun a ha => d7 ha) (qp hs hrun ?_), Nat.le_succ _, Nat.le_succ _, rfl, rfl, rfl, rfl⟩
   have h5 : mo s = 1 := by unfold mo; rw [h4]; rfl
   rw [h5]
   show 0 < 1
   decide
 · rw [e]
   obtain ⟨n, hn, hp⟩ := h.node hR hs
   rw [gS hR hs hn]
   obtain ⟨id, hid⟩ : ∃ id, id = p.run := ⟨_, rfl⟩
   rw [← hid] at hR ⊢
   have hleave : ∀ (st : Int), (S.leave id k).setR id (R.turned k s st) = { S.setR id (R.setS k ⟨st, s.CE, 0⟩) with CI := S.CI.eraseP (·.1 == s.token), tms := (S.tms.filter fun x => x.1 != ⟨id, (k : Int), 1⟩).filter fun x => x.1 != ⟨id, (k : Int), 2⟩ } := fun st => qw hR hs
   split
   · have hl4 := hleave 4
     have hle : (S.leave id k).sets = S.sets ∧ (S.leave id k).ends = S.ends ∧ (S.leave id k).CD = S.CD ∧ (S.leave id k).CC = S.CC ∧ (S.leave id k).now = S.now ∧ (S.leave id k).seed = S.seed := by
      rw [dI hR hs]
      exact ⟨rfl, rfl, rfl, rfl, rfl, rfl⟩
     refine ⟨?_, by show (S.leave id k).sets + 1 ≤ _; omega, by show (S.leave id k).ends ≤ _; omega, hle.2.2.1, hle.2.2.2.1, hle.2.2.2.2.1, hle.2.2.2.2.2⟩
     refine na (U := S.rests id k R s _) (id := id) (R := R) (R' := R.setS k ⟨4, s.CE, 0⟩) ?_ hR ?_ (fun a ha => ?_) (qp hs hrun ?_)
     · show ((S.leave id k).setR id (R.turned k s 4)).runs.map (·.1) = _
       rw [hl4]
       exact setR_keys
     · show ((S.leave id k).setR id (R.turned k s 4)).getR id = _
       rw [hl4]
       exact ch hR
     · show ((S.leave id k).setR id (R.turned k s 4)).getR a = _
       rw [hl4]
       exact d7 ha
     · have h5 : mo s = 2 := by unfold mo; rw [h3]; rfl
       rw [h5]
       show 1 < 2
       decide
   · rename_i hb
     obtain ⟨T, hT⟩ : ∃ T, T = np R.fl.CG := ⟨_, rfl⟩
     rw [← hT]
     have hbud : s.CE = n.CJ := by have := hp.trb; omega
     obtain ⟨D, hD⟩ : ∃ D, D = (S.leave id k).setR id ((R.turned k s 6).skips T) := ⟨_, rfl⟩
     have hDo : Ok D := by
      have h1 := h.part hR hs hn h3 (st := 6) (.inr (.inr ⟨rfl, hbud⟩))
      have h2 := Ok.skips (id := id) T h1 (ki hR hs)
      rw [ed] at h2
      rw [hD]
      exact h2
     have hDe : D = { S.setR id ((R.turned k s 6).skips T) with CI := S.CI.eraseP (·.1 == s.token), tms := (S.tms.filter fun x => x.1 != ⟨id, (k : Int), 1⟩).filter fun x => x.1 != ⟨id, (k : Int), 2⟩ } := by
      rw [hD, dI hR hs]
      show ((({ S with CI := S.CI.eraseP (·.1 == s.token) }.setR id (R.setS k { s with token := 0 })).setR id _).unset _).unset _ = _
      rw [ed]
      rfl
     have hDg : D.getR id = some ((R.turned k s 6).skips T) := by rw [hDe]; exact ch hR
     have hw : oO ((R.turned k s 6).skips T) < oO R := by
      have h1 : oO ((R.turned k s 6).skips T) = 1 + ((R.turned k s 6).CF.map mo).sum := by
       unfold oO Rn.skips
       rw [pr]
       exact if_pos hrun
      have h2 : oO (R.setS k ⟨6, s.CE, 0⟩) = 1 + ((R.setS k ⟨6, s.CE, 0⟩).CF.map mo).sum := by unfold oO; exact if_pos hrun
      have h5 : R.turned k s 6 = R.setS k ⟨6, s.CE, 0⟩ := by unfold Rn.turned; rw [kb]
      rw [h1, h5, ← h2]
      refine qp hs hrun ?_
      have h6 : mo s = 2 := by unfold mo; rw [h3]; rfl
      rw [h6]
      show 0 < 2
      decide
     have hm : D.mass < S.mass := na (by rw [hDe]; exact setR_keys) hR hDg (fun a ha => by rw [hDe]; exact d7 ha) hw
     have hset : S.dies id k R s T = D.settle id := by rw [hD]; rfl
     rw [hset]
     have hl : D.sets = S.sets ∧ D.ends = S.ends ∧ D.CD = S.CD ∧ D.CC = S.CC ∧ D.now = S.now ∧ D.seed = S.seed := by rw [hDe]; exact ⟨rfl, rfl, rfl, rfl, rfl, rfl⟩
     rcases qO hDg with e | ⟨st, hst, e⟩
     · rw [e]
       exact ⟨hm, by omega, by omega, hl.2.2.1, hl.2.2.2.1, hl.2.2.2.2.1, hl.2.2.2.2.2⟩
     · rw [e]
       have := hDo.finish_less hDg hrun (st := st) (by omega)
       exact ⟨Nat.lt_trans this.mass hm, by have := (hDo.ended hDg st).sets; omega, by have := this.ends; omega, this.CD.trans hl.2.2.1, this.CC.trans hl.2.2.2.1, this.now.trans hl.2.2.2.2.1, this.seed.trans hl.2.2.2.2.2⟩
end FK

namespace FK
def Low (ns : List Node) : Prop := ∀ i nd, ns[i]? = some nd → cM nd ∧ EdgesOk i (-1) nd.after
theorem EdgesOk.more {len len' : Nat} (h : len ≤ len') : ∀ {p : Int} {l : List Int}, EdgesOk len p l → EdgesOk len' p l
 | _, [], _ => trivial
 | _, _ :: _, ⟨h1, h2, h3⟩ => ⟨h1, by omega, EdgesOk.more h h3⟩
theorem EdgesOk.snoc {len : Nat} : ∀ {p : Int} {l : List Int} {k : Int}, EdgesOk len p l → (∀ x ∈ l, x < k) → p < k → k < len → EdgesOk len p (l ++ [k])
 | _, [], _, _, _, h2, h3 => ⟨h2, h3, trivial⟩
 | _, x :: _l, _, ⟨h1, h2, h3⟩, h4, _, h6 => ⟨h1, h2, EdgesOk.snoc h3 (fun y hy => h4 y (List.mem_cons_of_mem _ hy)) (h4 x (List.mem_cons_self ..)) h6⟩
theorem Low.fit {d : Int} {ns : List Node} (h : Low ns) (hd : span d 1) (h1 : 1 ≤ ns.length) (h2 : ns.length ≤ 12) : Fit ⟨d, ns⟩ := by
 refine ⟨⟨hd, h1, h2⟩, fun j n _ hj => ⟨(h j n hj).1, (h j n hj).2.more (Nat.le_of_lt (List.getElem?_eq_some_iff.1 hj).1)⟩, fun i _ => ?_⟩
 revert i
 have key : ∀ i, Ac ns i := by
  intro i
  induction i using Nat.strongRecOn with
  | _ i ih =>
   refine Ac.mk i fun k hk => ?_
   have hlt : k < i := by
    unfold dg at hk
    cases hn : ns[i]? with
    | none => rw [hn] at hk; simp at hk
    | some nd =>
     rw [hn] at hk
     simp at hk
     obtain ⟨x, hx, rfl⟩ := hk
     have := (h i nd hn).2.bounds x hx
     omega
   exact ih k hlt
 exact fun i _ => key i
structure Reach (ns : List Node) (a : Nat) (R : Nat → Bool) : Prop where
 at_ : R a = true
 low : ∀ i, i < a → R i = false
 dom : ∀ i, R i = true → ns[i]? ≠ none
 step : ∀ i nd, a < i → ns[i]? = some nd → (R i = true ↔ ∃ k ∈ nd.after, R k.toNat = true)
section
variable {ns : List Node} {a z : Nat} {nd : Node} {R : Nat → Bool}
end
end FK

namespace FK
def zI (i : Nat) : Node := ⟨1, 50, 0, 1, 1, 0, if i % 3 = 2 then [((i - 1 : Nat) : Int)] else []⟩
def zJ (n : Nat) : Flow := ⟨100, (List.range n).map zI⟩
structure FRun (n : Nat) (R : Rn) : Prop where
 fl : R.fl = zJ n
 len : R.CF.length = n
 a : ∀ (j : Nat) (s : Sp), R.CF[j]? = some s → j % 3 ≠ 2 → s.state = 2 ∨ s.state = 5
 b : ∀ (j : Nat) (s : Sp), R.CF[j]? = some s → j % 3 = 2 → (s.state = 1 ∧ bS R.CF (j - 1) 2 = true) ∨ ((s.state = 2 ∨ s.state = 5) ∧ bS R.CF (j - 1) 5 = true)
 t : ∀ (j : Nat) (s : Sp), R.CF[j]? = some s → s.state = 2 → s = ⟨2, 0, 0⟩
 w : ∀ (j : Nat) (s : Sp), R.CF[j]? = some s → s.state = 1 → s = ⟨1, 0, 0⟩
def fnext (id n k : Nat) : List Pl := if k % 3 = 1 ∧ k + 1 < n then [⟨id, ((k + 1 : Nat) : Int), 0⟩] else []
end FK

namespace FK
structure Stepped (S S1 S2 : En) (id k n : Nat) (q : List Pl) : Prop where
 one : Ok S1
 two : Ok S2
 task : (S1.CI.find? (·.1 == S.CC + 1)).map (·.2) = some ⟨id, (k : Int), 0⟩
 CH : S2.CH = q ++ fnext id n k
 run : ∃ R', S2.getR id = some R' ∧ FRun n R'
 others : ∀ a, a ≠ id → S2.getR a = S.getR a
 CD : S2.CD = S.CD
 runs : S2.runs.length = S.runs.length
 sets : S2.sets = S.sets + 1
 now : S2.now = S.now
 CC : S2.CC = S.CC + 1
 ends : S2.ends ≤ S.ends + 1
 sets1 : S1.sets = S.sets + 1
 ends1 : S1.ends = S.ends
 token1 : S1.CC = S.CC + 1
 lastRun1 : S1.CD = S.CD
end FK

namespace FK
def flow2 : Flow := ⟨100, [⟨2, 9, 0, 3, 9, 0, []⟩, ⟨1, 9, 0, 1, 1, 0, [0]⟩]⟩
def p9 (st : Int) (a b : Sp) (e : Nat) : Rn := ⟨flow2, st, [a, b], e⟩
def o1 : En := ⟨0, 0, 1, 0, 0, [(1, p9 1 ⟨2, 0, 0⟩ ⟨1, 0, 0⟩ 0)], [], [⟨1, 0, 0⟩], [(⟨1, -1, 0⟩, 100)], 1⟩
def o2 : En := ⟨0, 0, 1, 1, 0, [(1, p9 1 ⟨3, 1, 1⟩ ⟨1, 0, 0⟩ 0)], [(1, ⟨1, 0, 0⟩)], [], [(⟨1, -1, 0⟩, 100), (⟨1, 0, 1⟩, 9)], 2⟩
def o3 : En := ⟨0, 0, 1, 1, 0, [(1, p9 1 ⟨4, 1, 0⟩ ⟨1, 0, 0⟩ 0)], [], [], [(⟨1, -1, 0⟩, 100), (⟨1, 0, 1⟩, 3)], 3⟩
def o4 : En := ⟨3, 0, 1, 1, 0, [(1, p9 1 ⟨2, 1, 0⟩ ⟨1, 0, 0⟩ 0)], [], [⟨1, 0, 0⟩], [(⟨1, -1, 0⟩, 100)], 3⟩
def o5 : En := ⟨3, 0, 1, 2, 0, [(1, p9 1 ⟨3, 2, 2⟩ ⟨1, 0, 0⟩ 0)], [(2, ⟨1, 0, 0⟩)], [], [(⟨1, -1, 0⟩, 100), (⟨1, 0, 1⟩, 12)], 4⟩
def o6 : En := ⟨3, 0, 1, 2, 0, [(1, p9 1 ⟨5, 2, 0⟩ ⟨2, 0, 0⟩ 0)], [], [⟨1, 1, 0⟩], [(⟨1, -1, 0⟩, 100)], 4⟩
def o7 : En := ⟨3, 0, 1, 3, 0, [(1, p9 1 ⟨5, 2, 0⟩ ⟨3, 1, 3⟩ 0)], [(3, ⟨1, 1, 0⟩)], [], [(⟨1, -1, 0⟩, 100), (⟨1, 1, 1⟩, 12)], 5⟩
def o8 : En := ⟨3, 0, 1, 3, 1, [(1, p9 2 ⟨5, 2, 0⟩ ⟨5, 1, 0⟩ 1)], [], [], [], 5⟩
theorem flow2_fit : Fit flow2 := by
 refine ⟨⟨by decide, by decide, by decide⟩, fun j nd hj hn => ?_, fun i hi => ?_⟩
 · have : j = 0 ∨ j = 1 := by have : j < 2 := hj; omega
   rcases this with rfl | rfl
   · have : (⟨2, 9, 0, 3, 9, 0, []⟩ : Node) = nd := by simpa [flow2] using hn
     subst this
     exact ⟨by unfold cM span; simp, trivial⟩
   · have : (⟨1, 9, 0, 1, 1, 0, [0]⟩ : Node) = nd := by simpa [flow2] using hn
     subst this
     exact ⟨by unfold cM span; simp, by decide, by decide, trivial⟩
 · have h0 : Ac flow2.CG 0 := .mk 0 fun k hk => by simp [dg, flow2] at hk
   have : i = 0 ∨ i = 1 := by have : i < 2 := hi; omega
   rcases this with rfl | rfl
   · exact h0
   · refine .mk 1 fun k hk => ?_
     have : k = 0 := by simpa [dg, flow2] using hk
     subst this
     exact h0
theorem BC : En.fresh.submit flow2 = o1 := rfl
theorem xZ : o1.hand ⟨1, ((0 : Nat) : Int), 0⟩ [] (p9 1 ⟨2, 0, 0⟩ ⟨1, 0, 0⟩ 0) ⟨2, 0, 0⟩ ⟨2, 9, 0, 3, 9, 0, []⟩ = o2 := rfl
theorem xY : o2.fail 1 = o3 := by
 have hR : o2.getR 1 = some (p9 1 ⟨3, 1, 1⟩ ⟨1, 0, 0⟩ 0) := rfl
 have hs : (p9 1 ⟨3, 1, 1⟩ ⟨1, 0, 0⟩ 0).CF[0]? = some ⟨3, 1, 1⟩ := rfl
 have hn : (p9 1 ⟨3, 1, 1⟩ ⟨1, 0, 0⟩ 0).fl.CG[0]? = some ⟨2, 9, 0, 3, 9, 0, []⟩ := rfl
 rw [li (id := 1) (k := 0) (w := 0) rfl, gS hR hs hn, if_pos (by decide)]
 rfl
theorem o4_ticks : Ticks 3 o3 o4 := by
 refine .step (x := (⟨1, 0, 1⟩, 3)) (tms' := [(⟨1, -1, 0⟩, 100)]) ⟨[(⟨1, -1, 0⟩, 100)], [], rfl, rfl, by intro y hy; rw [List.mem_singleton] at hy; subst hy; decide, by intro y hy; cases hy⟩ (Nat.le_refl _) ?_
 have h1 : ({ o3 with now := 3, tms := [(⟨1, -1, 0⟩, 100)] } : En).due ⟨1, 0, 1⟩ = { o4 with now := 3 } := rfl
 rw [show ({ o3 with now := ((⟨1, 0, 1⟩, 3) : KD).2, tms := [(⟨1, -1, 0⟩, 100)] } : En).due ((⟨1, 0, 1⟩, 3) : KD).1 = { o4 with now := 3 } from h1]
 exact .done (S := { o4 with now := 3 }) (by intro y hy; have hy' : y ∈ [((⟨1, -1, 0⟩ : Pl), 100)] := hy; rw [List.mem_singleton] at hy'; subst hy'; decide)
theorem o4_eq {U : En} (h : Ticks 3 o3 U) : U = o4 := h.unique o4_ticks
theorem xW : o4.hand ⟨1, ((0 : Nat) : Int), 0⟩ [] (p9 1 ⟨2, 1, 0⟩ ⟨1, 0, 0⟩ 0) ⟨2, 1, 0⟩ ⟨2, 9, 0, 3, 9, 0, []⟩ = o5 := rfl
theorem xV : o5.complete 2 = o6 := rfl
theorem xU : o6.hand ⟨1, ((1 : Nat) : Int), 0⟩ [] (p9 1 ⟨5, 2, 0⟩ ⟨2, 0, 0⟩ 0) ⟨2, 0, 0⟩ ⟨1, 9, 0, 1, 1, 0, [0]⟩ = o7 := rfl
theorem xT : o7.complete 3 = o8 := rfl
theorem o1_ok : Ok o1 := BC ▸ Ok.fresh.submit (by decide) flow2_fit
theorem o2_ok : Ok o2 := xZ ▸ o1_ok.hand rfl rfl rfl rfl
theorem xX : Ok o3 := xY ▸ o2_ok.fail 1
theorem o4_ok : Ok o4 := o4_ticks.ok (by decide) xX
theorem o5_ok : Ok o5 := xW ▸ o4_ok.hand rfl rfl rfl rfl
theorem o6_ok : Ok o6 := xV ▸ o5_ok.complete 2
theorem o7_ok : Ok o7 := xU ▸ o6_ok.hand rfl rfl rfl rfl
theorem pf : Ok o8 := xT ▸ o7_ok.complete 3
theorem cut0 {S0 : En} (h : rh En.fresh S0) : S0 = En.fresh := by
 unfold rh at h
 rw [if_neg (by decide)] at h
 exact h
theorem nW {n k : Nat} : n < 128 ^ (k + 1) → (bA n).length ≤ k + 1 := by
 induction k generalizing n with
 | zero =>
  intro h
  rw [bA, if_pos (by simpa using h)]
  simp
 | succ k ih =>
  intro h
  rw [bA]
  split
  · simp
  · have := ih (n := n / 128) (by rw [Nat.div_lt_iff_lt_mul (by omega)]; rw [Nat.pow_succ] at h; exact h)
    simp only [List.length_cons]
    omega
theorem eC {x : Int} (h1 : x ≤ 1048576) : (bA x.toNat).length ≤ 3 := nW (k := 2) (by omega)
theorem nQ {α β : Type} {f : α → List β} {n : Nat} : ∀ {l : List α}, (∀ x ∈ l, (f x).length ≤ n) → (l.flatMap f).length ≤ l.length * n
 | [], _ => by simp
 | x :: l, h => by
  have h1 := h x (.head _)
  have h2 := nQ (l := l) fun y hy => h y (.tail _ hy)
  rw [List.flatMap_cons, List.length_append, List.length_cons, Nat.succ_mul]
  omega
theorem jr {len : Nat} : ∀ (l : List Int) (p : Int), EdgesOk len p l → (l.length : Int) ≤ max 0 ((len : Int) - 1 - p)
 | [], _, _ => by simp; omega
 | k :: r, p, h => by
  obtain ⟨h1, h2, h3⟩ := h
  have := jr r k h3
  simp only [List.length_cons]
  omega
theorem Fit.encLen {f : Flow} (h : Fit f) : (bN f).length ≤ 1000 := by
 have h12 := h.head.2.2
 have hd := eC h.head.1.2
 have hn : (bA f.CG.length).length ≤ 3 := nW (k := 2) (by omega)
 have hnodes : (f.CG.flatMap dq).length ≤ f.CG.length * 60 := nQ fun nd cN => by
  obtain ⟨i, hi⟩ := List.getElem?_of_mem cN
  obtain ⟨⟨a1, a2, ⟨b1, b2⟩, ⟨c1, c2⟩, ⟨d1, d2⟩, ⟨e1, e2⟩, g1, g2⟩, he⟩ := h.CG i nd (bU hi) hi
  have hl := jr _ _ he
  have k1 := eC (x := nd.CJ) (by omega)
  have k2 := eC (x := nd.close) (by omega)
  have k3 := eC (x := nd.beat) (by omega)
  have k4 := eC (x := nd.base) (by omega)
  have k5 := eC (x := nd.cap) (by omega)
  have k6 := eC (x := nd.CK) (by omega)
  have k7 : (bA nd.after.length).length ≤ 3 := nW (k := 2) (by omega)
  have k8 : (nd.after.flatMap fun k => bA k.toNat).length ≤ nd.after.length * 3 := nQ fun x hx => by
   have hin : ∀ (l : List Int) (p : Int), EdgesOk f.CG.length p l → ∀ y ∈ l, y < f.CG.length := by
    intro l
    induction l with
    | nil => intro _ _ y hy; simp at hy
    | cons z l ih =>
     intro p hp y hy
     rcases List.mem_cons.1 hy with rfl | hy
     · exact hp.2.1
     · exact ih z hp.2.2 y hy
   exact eC (by have := hin _ _ he x hx; omega)
  unfold dq
  simp only [List.length_append]
  omega
 unfold bN
 simp only [List.length_append]
 omega
end FK

namespace FK
def gV (R : Rn) (k : Nat) : Prop := ∀ u ∈ dg R.fl.CG k, bS R.CF u 5 = true
theorem isAt_iff {l : List Sp} {k : Nat} {x : Int} : bS l k x = true ↔ ∃ s, l[k]? = some s ∧ s.state = x := by
 constructor
 · exact qB
 · rintro ⟨s, h1, h2⟩
   rw [dw h1]
   simpa using h2
theorem lx {R : Rn} {k : Nat} {s : Sp} (hs : R.CF[k]? = some s) (hl : R.CF.length = R.fl.CG.length) : dv R k = true ↔ s.state = 1 ∧ gV R k := by
 have hk := (List.getElem?_eq_some_iff.1 hs).1
 have hn : R.fl.CG[k]? = some (R.fl.CG[k]'(by omega)) := List.getElem?_eq_getElem _
 rw [kj hs hn]
 unfold gV
 rw [ql hn]
 simp only [Bool.and_eq_true, beq_iff_eq, List.all_eq_true, List.mem_map]
 constructor
 · rintro ⟨h1, h2⟩
   exact ⟨h1, fun u ⟨x, hx, e⟩ => by rw [← e]; exact h2 x hx⟩
 · rintro ⟨h1, h2⟩
   exact ⟨h1, fun x hx => h2 _ ⟨x, hx, rfl⟩⟩
structure Hon0 (R : Rn) : Prop where
 up : ∀ (k : Nat) (s : Sp), R.CF[k]? = some s → (2 ≤ s.state ∧ s.state ≤ 6) → gV R k
 wt : R.state = 1 → ∀ (k : Nat) (s : Sp), R.CF[k]? = some s → s.state = 1 → ¬ gV R k
 sk : R.state = 1 → ∀ (k : Nat) (s : Sp), R.CF[k]? = some s → s.state = 1 → ∀ u ∈ dg R.fl.CG k, bS R.CF u 6 = false ∧ bS R.CF u 7 = false
structure Hon (R : Rn) : Prop where
 h0 : Hon0 R
 go : R.state = 1 → ∃ (k : Nat) (s : Sp), R.CF[k]? = some s ∧ over s = false
 all : R.state = 2 → ∀ (k : Nat) (s : Sp), R.CF[k]? = some s → s.state = 5
 lost : R.state ≠ 1 → R.state ≠ 2 → ∃ (k : Nat) (s : Sp), R.CF[k]? = some s ∧ s.state ≠ 5
theorem over_iff {s : Sp} : over s = true ↔ s.state = 5 ∨ s.state = 6 ∨ s.state = 7 := by
 unfold over
 simp only [Bool.or_eq_true, beq_iff_eq]
 omega
theorem ls {s : Sp} : over s = false ↔ s.state ≠ 5 ∧ s.state ≠ 6 ∧ s.state ≠ 7 := by
 rw [← Bool.not_eq_true, over_iff]
 omega
structure Nx (s s' : Sp) : Prop where
 CE : s'.CE = s.CE
 ov : over s = true → s'.state = s.state
 w3 : s'.state = 3 → s' = s
 w4 : s'.state = 4 → s.state = 4
 w2 : s'.state = 2 → s.state = 2 ∨ s.state = 1
 w1 : s'.state = 1 → s.state = 1
section
variable {s : Sp} {R : Rn} {n : Nat}
theorem Nx.refl (s : Sp) : Nx s s := ⟨rfl, fun _ => rfl, fun _ => rfl, fun h => h, fun h => .inl h, fun h => h⟩
theorem Nx.trans {a b c : Sp} (h : Nx a b) (k : Nx b c) : Nx a c := ⟨k.CE.trans h.CE, fun ho => (k.ov (by have := h.ov ho; rw [over_iff] at ho ⊢; omega)).trans (h.ov ho), fun e => by
 have e2 := k.w3 e
 rw [e2]
 exact h.w3 (by rw [← e2]; exact e), fun e => h.w4 (k.w4 e), fun e => by
 rcases k.w2 e with e | e
 · exact h.w2 e
 · exact .inr (h.w1 e), fun e => h.w1 (k.w1 e)⟩
theorem Bx (h : s.state = 1) : Nx s { s with state := 2 } := ⟨rfl, fun ho => by rw [over_iff] at ho; omega, fun e => by replace e : (2 : Int) = 3 := e; omega, fun e => by replace e : (2 : Int) = 4 := e; omega, fun _ => .inr h, fun e => by replace e : (2 : Int) = 1 := e; omega⟩
theorem Nx.skip (h : s.state = 1) : Nx s { s with state := 7 } := ⟨rfl, fun ho => by rw [over_iff] at ho; omega, fun e => by replace e : (7 : Int) = 3 := e; omega, fun e => by replace e : (7 : Int) = 4 := e; omega, fun e => by replace e : (7 : Int) = 2 := e; omega, fun e => by replace e : (7 : Int) = 1 := e; omega⟩
theorem ks (h : over s = true) : (eK { s with token := 0 }).state = s.state := by
 rw [over_iff] at h
 unfold eK
 split
 · rfl
 · rename_i hn
   have : ¬ (s.state = 5 ∨ s.state = 6) := hn
   show (7 : Int) = _
   omega
theorem nV (h : s.state ≠ 5) : (eK { s with token := 0 }).state ≠ 5 := by
 unfold eK
 split
 · exact h
 · show (7 : Int) ≠ 5
   decide
theorem endS_five : (eK { s with token := 0 }).state = 5 ↔ s.state = 5 := by
 constructor
 · intro h
   exact Classical.byContradiction fun hn => nV hn h
 · intro h
   rw [ks (over_iff.2 (.inl h))]
   exact h
theorem Nx.ended (s : Sp) : Nx s (eK { s with token := 0 }) := by
 have h := kS { s with token := 0 }
 exact ⟨oH _, ks, fun e => by omega, fun e => by omega, fun e => by omega, fun e => by omega⟩
def du (R : Rn) (n : Nat) : Rn := { R with CF := R.CF.mapIdx fun j s => if j < n ∧ dv R j = true then { s with state := 2 } else s }
theorem d9 {j : Nat} (hs : R.CF[j]? = some s) : (du R n).CF[j]? = some (if j < n ∧ dv R j = true then { s with state := 2 } else s) := by
 unfold du
 simp only [List.getElem?_mapIdx, hs, Option.map_some]
theorem dJ (R : Rn) (n : Nat) : (du R n).CF.length = R.CF.length := by simp [du]
theorem nP {k : Nat} (hs : R.CF[k]? = some s) (h : dv R k = true) : s.state = 1 := by
 unfold dv at h
 simp only [Bool.and_eq_true] at h
 have h1 := h.1
 rw [dw hs] at h1
 simpa using h1
theorem nE {j : Nat} {x : Int} (h1 : x ≠ 1) (h2 : x ≠ 2) : bS (du R n).CF j x = bS R.CF j x := by
 cases hs : R.CF[j]? with
 | none =>
  unfold bS
  have : (du R n).CF[j]? = none := by rw [List.getElem?_eq_none_iff] at hs ⊢; rw [dJ]; exact hs
  rw [this, hs]
 | some s =>
  rw [dw (d9 hs), dw hs]
  split
  · rename_i h
    have := nP hs h.2
    rw [this]
    have e1 : ((2 : Int) == x) = false := by simpa using fun e => h2 e.symm
    have e2 : ((1 : Int) == x) = false := by simpa using fun e => h1 e.symm
    show ((2 : Int) == x) = _
    rw [e1, e2]
  · rfl
theorem nD {k : Nat} : gV (du R n) k ↔ gV R k := by
 unfold gV
 have : ∀ u, bS (du R n).CF u 5 = bS R.CF u 5 := fun u => nE (by decide) (by decide)
 simp only [this]
 exact Iff.rfl
theorem tR (R : Rn) : du R 0 = R := by
 have : R.CF.mapIdx (fun j s => if j < 0 ∧ dv R j = true then { s with state := 2 } else s) = R.CF := by
  apply List.ext_getElem?
  intro j
  rw [List.getElem?_mapIdx]
  cases R.CF[j]? <;> simp
 unfold du
 rw [this]
theorem tT (hl : R.CF.length = R.fl.CG.length) (hn : n < R.CF.length) : dv (du R n) n = dv R n := by
 have hs : R.CF[n]? = some (R.CF[n]) := List.getElem?_eq_getElem hn
 have hs' := d9 (n := n) hs
 rw [if_neg (by omega)] at hs'
 rw [Bool.eq_iff_iff, lx hs hl, lx hs' (by rw [dJ]; exact hl), nD]
theorem tS (hs : R.CF[n]? = some s) : du R (n + 1) = if dv R n = true then (du R n).setS n { s with state := 2 } else du R n := by
 have hlt := (List.getElem?_eq_some_iff.1 hs).1
 have e : ∀ A B : Rn, A.fl = B.fl → A.state = B.state → A.ended = B.ended → A.CF = B.CF → A = B := by
  rintro ⟨_, _, _, _⟩ ⟨_, _, _, _⟩ h1 h2 h3 h4
  simp only at h1 h2 h3 h4
  rw [h1, h2, h3, h4]
 split
 · rename_i hf
   refine e _ _ rfl rfl rfl ?_
   apply List.ext_getElem?
   intro j
   show (du R (n + 1)).CF[j]? = ((du R n).CF.set n _)[j]?
   by_cases hj : j = n
   · subst hj
     rw [List.getElem?_set_self (by rw [dJ]; exact hlt), d9 hs, if_pos ⟨by omega, hf⟩]
   · rw [List.getElem?_set_ne (Ne.symm hj)]
     cases hsj : R.CF[j]? with
     | none => rw [List.getElem?_eq_none_iff] at hsj; rw [List.getElem?_eq_none (by rw [dJ]; exact hsj), List.getElem?_eq_none (by rw [dJ]; exact hsj)]
     | some u =>
      rw [d9 hsj, d9 hsj]
      have : (j < n + 1 ∧ dv R j = true) ↔ (j < n ∧ dv R j = true) := by
       constructor
       · rintro ⟨a, b⟩; exact ⟨by omega, b⟩
       · rintro ⟨a, b⟩; exact ⟨by omega, b⟩
      simp only [this]
 · rename_i hf
   refine e _ _ rfl rfl rfl ?_
   apply List.ext_getElem?
   intro j
   cases hsj : R.CF[j]? with
   | none => rw [List.getElem?_eq_none_iff] at hsj; rw [List.getElem?_eq_none (by rw [dJ]; exact hsj), List.getElem?_eq_none (by rw [dJ]; exact hsj)]
   | some u =>
    rw [d9 hsj, d9 hsj]
    have : (j < n + 1 ∧ dv R j = true) ↔ (j < n ∧ dv R j = true) := by
     constructor
     · rintro ⟨a, b⟩
       refine ⟨?_, b⟩
       by_cases hj : j = n
       · subst hj; exact absurd b hf
       · omega
     · rintro ⟨a, b⟩; exact ⟨by omega, b⟩
    simp only [this]
end
structure Fr (id : Nat) (S U : En) : Prop where
 others : ∀ a, a ≠ id → U.getR a = S.getR a
 keys : U.runs.map (·.1) = S.runs.map (·.1)
 now : U.now = S.now
 seed : U.seed = S.seed
 CD : U.CD = S.CD
 CC : U.CC = S.CC
theorem Fr.refl (id : Nat) (S : En) : Fr id S S := ⟨fun _ _ => rfl, rfl, rfl, rfl, rfl, rfl⟩
theorem Fr.trans {id : Nat} {S T U : En} (h : Fr id S T) (k : Fr id T U) : Fr id S U := ⟨fun a ha => (k.others a ha).trans (h.others a ha), k.keys.trans h.keys, k.now.trans h.now, k.seed.trans h.seed, k.CD.trans h.CD, k.CC.trans h.CC⟩
structure Same (S U : En) : Prop where
 tms : U.tms = S.tms
 CI : U.CI = S.CI
 ends : U.ends = S.ends
 sets : U.sets = S.sets
theorem nJ {S : En} {id k : Nat} {R : Rn} {s : Sp} (hR : S.getR id = some R) (hs : R.CF[k]? = some s) : Fr id S (S.ready id k) ∧ Same S (S.ready id k) := by
 rw [hZ hR hs]
 exact ⟨⟨fun a ha => d7 ha, setR_keys, rfl, rfl, rfl, rfl⟩, ⟨rfl, rfl, rfl, rfl⟩⟩
theorem rs {S : En} {id : Nat} {R : Rn} (hR : S.getR id = some R) (hl : R.CF.length = R.fl.CG.length) : ∀ n, n ≤ R.CF.length → (S.wakeN id n).getR id = some (du R n) ∧ Fr id S (S.wakeN id n) ∧ Same S (S.wakeN id n) ∧ ∃ l, (S.wakeN id n).CH = S.CH ++ l
 | 0, _ => ⟨by rw [tR]; exact hR, Fr.refl _ _, ⟨rfl, rfl, rfl, rfl⟩, [], by simp [En.wakeN]⟩
 | n + 1, hn => by
  obtain ⟨h1, h2, h3, l, h4⟩ := rs hR hl n (by omega)
  have hs : R.CF[n]? = some (R.CF[n]) := List.getElem?_eq_getElem (by omega)
  have hs' := d9 (n := n) hs
  rw [if_neg (by omega)] at hs'
  rw [fi, jK h1, tT hl (by omega), tS hs]
  split
  · have hf := nJ h1 hs'
    refine ⟨?_, h2.trans hf.1, ⟨hf.2.tms.trans h3.tms, hf.2.CI.trans h3.CI, hf.2.ends.trans h3.ends, hf.2.sets.trans h3.sets⟩, l ++ [⟨id, (n : Int), 0⟩], ?_⟩
    · rw [hZ h1 hs']
      exact ch h1
    · rw [hZ h1 hs']
      show (S.wakeN id n).CH ++ _ = _
      rw [h4, List.append_assoc]
  · exact ⟨h1, h2, h3, l, h4⟩
theorem vn {S : En} {id : Nat} {R : Rn} (hR : S.getR id = some R) (hl : R.CF.length = R.fl.CG.length) : (S.wake id).getR id = some (du R R.CF.length) ∧ Fr id S (S.wake id) ∧ Same S (S.wake id) ∧ ∃ l, (S.wake id).CH = S.CH ++ l := by
 unfold En.wake
 rw [hR]
 simp only
 rw [← hl]
 exact rs hR hl _ (Nat.le_refl _)
theorem Hon0.wake {R : Rn} (hl : R.CF.length = R.fl.CG.length) (hu : ∀ (k : Nat) (s : Sp), R.CF[k]? = some s → (2 ≤ s.state ∧ s.state ≤ 6) → gV R k) (hk : ∀ (k : Nat) (s : Sp), R.CF[k]? = some s → s.state = 1 → ∀ u ∈ dg R.fl.CG k, bS R.CF u 6 = false ∧ bS R.CF u 7 = false) : Hon0 (du R R.CF.length) := by
 have key : ∀ (k : Nat) (s' : Sp), (du R R.CF.length).CF[k]? = some s' → ∃ s, R.CF[k]? = some s ∧ s' = if dv R k = true then { s with state := 2 } else s := fun k s' h => by
  have hlt : k < R.CF.length := by have := (List.getElem?_eq_some_iff.1 h).1; rwa [dJ] at this
  have hs : R.CF[k]? = some (R.CF[k]) := List.getElem?_eq_getElem hlt
  have := d9 (n := R.CF.length) hs
  rw [h] at this
  injection this with this
  refine ⟨_, hs, ?_⟩
  rw [this]
  simp only [hlt, true_and]
 refine ⟨fun k s' hs' hst => ?_, fun _ k s' hs' h1 => ?_, fun _ k s' hs' h1 u hu' => ?_⟩
 · obtain ⟨s, hs, e⟩ := key k s' hs'
   rw [nD]
   split at e
   · rename_i hf
     exact ((lx hs hl).1 hf).2
   · rw [e] at hst
     exact hu k s hs hst
 · obtain ⟨s, hs, e⟩ := key k s' hs'
   rw [nD]
   split at e
   · rw [e] at h1
     replace h1 : (2 : Int) = 1 := h1
     omega
   · rename_i hf
     rw [e] at h1
     exact fun h => hf ((lx hs hl).2 ⟨h1, h⟩)
 · obtain ⟨s, hs, e⟩ := key k s' hs'
   rw [nE (by decide) (by decide), nE (by decide) (by decide)]
   split at e
   · rw [e] at h1
     replace h1 : (2 : Int) = 1 := h1
     omega
   · rw [e] at h1
     exact hk k s hs h1 u hu'
theorem yF {R : Rn} {n j : Nat} {s : Sp} (hs : R.CF[j]? = some s) : ∃ s', (du R n).CF[j]? = some s' ∧ Nx s s' := by
 refine ⟨_, d9 hs, ?_⟩
 split
 · rename_i h
   exact Bx (nP hs h.2)
 · exact Nx.refl s
structure Fin (id : Nat) (S U : En) (R R' : Rn) (st : Int) : Prop where
 get : U.getR id = some R'
 fr : Fr id S U
 fl : R'.fl = R.fl
 state : R'.state = st
 len : R'.CF.length = R.CF.length
 CF : ∀ (j : Nat) (s : Sp), R.CF[j]? = some s → R'.CF[j]? = some (eK { s with token := 0 })
 tms : ∀ x ∈ U.tms, x ∈ S.tms
 ends : U.ends = S.ends + 1
 sets : U.sets = S.sets
section
variable {id : Nat} {S U : En} {R R' : Rn}
theorem Ok.fin (h : Ok S) (hR : S.getR id = some R) (st : Int) : ∃ R', Fin id S (S.finish id st) R R' st := by
 have he := h.ended hR st
 obtain ⟨R', g1, g2, g3, g4, g5, g6⟩ := he.run
 exact ⟨R', g1, ⟨he.others, he.keys, he.now, he.seed, he.CD, he.CC⟩, g2, g3, g5, g6, fun x hx => ((he.tms x).1 hx).1, he.ends, he.sets⟩
theorem Fin.back {st : Int} (h : Fin id S U R R' st) {k : Nat} {s' : Sp} (hs : R'.CF[k]? = some s') : ∃ s, R.CF[k]? = some s ∧ s' = eK { s with token := 0 } := by
 have hlt : k < R.CF.length := by have := (List.getElem?_eq_some_iff.1 hs).1; rwa [h.len] at this
 have hs0 : R.CF[k]? = some (R.CF[k]) := List.getElem?_eq_getElem hlt
 have := h.CF k _ hs0
 rw [hs] at this
 injection this with this
 exact ⟨_, hs0, this⟩
theorem Fin.up {st : Int} (h : Fin id S U R R' st) {k : Nat} (hu : gV R k) : gV R' k := by
 unfold gV at hu ⊢
 rw [h.fl]
 intro u hm
 obtain ⟨s, hs, h5⟩ := isAt_iff.1 (hu u hm)
 exact isAt_iff.2 ⟨_, h.CF u s hs, endS_five.2 h5⟩
theorem Fin.hon0 {st : Int} (h : Fin id S U R R' st) (hst : st ≠ 1) (h0 : ∀ (k : Nat) (s : Sp), R.CF[k]? = some s → (2 ≤ s.state ∧ s.state ≤ 6) → gV R k) : Hon0 R' := by
 refine ⟨fun k s' hs' hr => ?_, fun e => absurd (h.state.symm.trans e) hst, fun e => absurd (h.state.symm.trans e) hst⟩
 obtain ⟨s, hs, rfl⟩ := h.back hs'
 refine h.up (h0 k s hs ?_)
 unfold eK at hr
 split at hr
 · exact hr
 · have : (2 : Int) ≤ 7 ∧ (7 : Int) ≤ 6 := hr
   omega
theorem Fin.hon {st : Int} (h : Fin id S U R R' st) (h1 : st ≠ 1) (h2 : st ≠ 2) (hH : Hon R) (hrun : R.state = 1) : Hon R' := by
 refine ⟨h.hon0 h1 hH.h0.up, fun e => absurd (h.state.symm.trans e) h1, fun e => absurd (h.state.symm.trans e) h2, fun _ _ => ?_⟩
 obtain ⟨k, s, hs, ho⟩ := hH.go hrun
 rw [ls] at ho
 exact ⟨k, _, h.CF k s hs, nV ho.1⟩
end
structure Settled (id : Nat) (S U : En) (R R' : Rn) : Prop where
 get : U.getR id = some R'
 fr : Fr id S U
 fl : R'.fl = R.fl
 len : R'.CF.length = R.CF.length
 CF : ∀ (j : Nat) (s : Sp), R.CF[j]? = some s → ∃ s', R'.CF[j]? = some s' ∧ Nx s s' ∧ s'.state = s.state
 hon : Hon R'
 tms : ∀ x ∈ U.tms, x ∈ S.tms
 ends : U.ends ≤ S.ends + 1
 sets : U.sets = S.sets
 stay : R'.state = 1 → U = S ∧ R' = R
theorem Ok.settled {S : En} (h : Ok S) {id : Nat} {R : Rn} (hR : S.getR id = some R) (hrun : R.state = 1) (h0 : Hon0 R) : ∃ R', Settled id S (S.settle id) R R' := by
 unfold En.settle
 rw [hR]
 simp only
 by_cases ha : R.CF.all over = true
 · rw [if_pos ha]
   rw [List.all_eq_true] at ha
   have ho : ∀ (j : Nat) (s : Sp), R.CF[j]? = some s → over s = true := fun j s hs => ha s (List.mem_of_getElem? hs)
   obtain ⟨st, hst⟩ : ∃ st : Int, st = if (R.CF.all fun s => s.state == 5) = true then 2 else 3 := ⟨_, rfl⟩
   have hst1 : st ≠ 1 := by rw [hst]; split <;> decide
   rw [← hst]
   obtain ⟨R', hF⟩ := h.fin hR st
   refine ⟨R', hF.get, hF.fr, hF.fl, hF.len, fun j s hs => ⟨_, hF.CF j s hs, Nx.ended s, ks (ho j s hs)⟩, ⟨hF.hon0 hst1 h0.up, fun e => absurd (hF.state.symm.trans e) hst1, fun e k s' hs' => ?_, fun _ e => ?_⟩, hF.tms, Nat.le_of_eq hF.ends, hF.sets, fun e => absurd (hF.state.symm.trans e) hst1⟩
   · obtain ⟨s, hs, rfl⟩ := hF.back hs'
     rw [ks (ho k s hs)]
     have e2 : st = 2 := hF.state.symm.trans e
     rw [hst] at e2
     split at e2
     · rename_i h5
       rw [List.all_eq_true] at h5
       simpa using h5 s (List.mem_of_getElem? hs)
     · omega
   · have e2 : ¬ (R.CF.all fun s => s.state == 5) = true := fun h5 => e (by rw [hF.state, hst, if_pos h5])
     rw [List.all_eq_true] at e2
     have : ∃ s ∈ R.CF, s.state ≠ 5 := Classical.byContradiction fun hn => e2 fun s hs => by
      have : s.state = 5 := Classical.byContradiction fun h5 => hn ⟨s, hs, h5⟩
      simpa using this
     obtain ⟨s, hs, h5⟩ := this
     obtain ⟨k, hk⟩ := List.getElem?_of_mem hs
     exact ⟨k, _, hF.CF k s hk, nV h5⟩
 · rw [if_neg ha]
   have : ∃ s ∈ R.CF, over s = false := Classical.byContradiction fun hn => ha (List.all_eq_true.2 fun s hs => by
    cases ho : over s with
    | true => rfl
    | false => exact absurd ⟨s, hs, ho⟩ hn)
   obtain ⟨s, hs, h5⟩ := this
   obtain ⟨k, hk⟩ := List.getElem?_of_mem hs
   exact ⟨R, hR, Fr.refl _ _, rfl, rfl, fun j s hs => ⟨s, hs, Nx.refl s, rfl⟩, ⟨h0, fun _ => ⟨k, s, hk, h5⟩, fun e => by omega, fun e => absurd hrun e⟩, fun _ hx => hx, Nat.le_succ _, rfl, fun _ => ⟨rfl, rfl⟩⟩
end FK

namespace FK
structure Mv (id k : Nat) (S U : En) (R R' : Rn) (new : List KD) : Prop where
 get : U.getR id = some R'
 others : ∀ a, a ≠ id → U.getR a = S.getR a
 keys : U.runs.map (·.1) = S.runs.map (·.1)
 now : U.now = S.now
 seed : U.seed = S.seed
 CD : U.CD = S.CD
 CC : S.CC ≤ U.CC ∧ U.CC ≤ S.CC + 1
 ends : U.ends ≤ S.ends + 1
 sets : U.sets ≤ S.sets + 2
 fl : R'.fl = R.fl
 len : R'.CF.length = R.CF.length
 CF : ∀ (j : Nat) (s : Sp), j ≠ k → R.CF[j]? = some s → ∃ s', R'.CF[j]? = some s' ∧ Nx s s'
 hon : Hon R'
 tms : ∀ x ∈ U.tms, x ∈ S.tms ∨ x ∈ new
 keep : R'.state = 1 → ∀ x ∈ S.tms, (∀ w, x.1 ≠ ⟨id, (k : Int), w⟩) → x ∈ U.tms
 newin : R'.state = 1 → ∀ x ∈ new, x ∈ U.tms
section
variable {a id j k : Nat} {R : Rn} {s s' : Sp} {S : En}
theorem fI (R : Rn) (k : Nat) (s : Sp) (st : Int) : R.turned k s st = R.setS k ⟨st, s.CE, 0⟩ := by
 unfold Rn.turned
 rw [kb]
theorem wm (hs : R.CF[k]? = some s) (st : Int) : (R.turned k s st).CF[k]? = some ⟨st, s.CE, 0⟩ := by
 rw [fI]
 exact cv hs
theorem gG (h : j ≠ k) : (R.setS k s).CF[j]? = R.CF[j]? := by
 unfold Rn.setS
 exact List.getElem?_set_ne (Ne.symm h)
theorem setS_len : (R.setS k s).CF.length = R.CF.length := by simp [Rn.setS]
theorem fm {u : Sp} (h : (R.setS k s').CF[j]? = some u) : (j = k ∧ u = s') ∨ (j ≠ k ∧ R.CF[j]? = some u) := by
 by_cases hj : j = k
 · subst hj
   have hlt : j < R.CF.length := by have := (List.getElem?_eq_some_iff.1 h).1; rwa [setS_len] at this
   have hs : R.CF[j]? = some (R.CF[j]) := List.getElem?_eq_getElem hlt
   rw [cv hs] at h
   injection h with h
   exact .inl ⟨rfl, h.symm⟩
 · rw [gG hj] at h
   exact .inr ⟨hj, h⟩
theorem j4 {u : Nat} {x : Int} (hs : R.CF[k]? = some s) (h : u = k → (s'.state = x ↔ s.state = x)) : bS (R.setS k s').CF u x = bS R.CF u x := by
 by_cases hu : u = k
 · subst hu
   rw [dw (cv hs), dw hs, Bool.eq_iff_iff]
   simpa using h rfl
 · exact jd (gG hu)
theorem vt (hs : R.CF[k]? = some s) (h : s'.state = 5 ↔ s.state = 5) : gV (R.setS k s') j ↔ gV R j := by
 unfold gV
 have : ∀ u, bS (R.setS k s').CF u 5 = bS R.CF u 5 := fun u => j4 hs fun _ => h
 simp only [this]
 exact Iff.rfl
theorem yS (hs : R.CF[k]? = some s) (h : s.state = 5 → s'.state = 5) (hu : gV R j) : gV (R.setS k s') j := by
 unfold gV at hu ⊢
 intro u hm
 obtain ⟨t, ht, h5⟩ := isAt_iff.1 (hu u hm)
 by_cases huk : u = k
 · subst huk
   rw [hs] at ht
   injection ht with ht
   subst ht
   exact isAt_iff.2 ⟨s', cv hs, h h5⟩
 · exact isAt_iff.2 ⟨t, by rw [gG huk]; exact ht, h5⟩
theorem Hon0.set (h : Hon0 R) (hs : R.CF[k]? = some s) (h1 : 2 ≤ s.state ∧ s.state ≤ 4) (h2 : 2 ≤ s'.state ∧ s'.state ≤ 4) : Hon0 (R.setS k s') := by
 have h5 : s'.state = 5 ↔ s.state = 5 := by omega
 refine ⟨fun j u hj hr => ?_, fun hst j u hj hr => ?_, fun hst j u hj hr v hv => ?_⟩
 · rw [vt hs h5]
   rcases fm hj with ⟨rfl, rfl⟩ | ⟨_, hj⟩
   · exact h.up _ s hs (by omega)
   · exact h.up j u hj hr
 · rw [vt hs h5]
   rcases fm hj with ⟨rfl, rfl⟩ | ⟨_, hj⟩
   · omega
   · exact h.wt hst j u hj hr
 · rcases fm hj with ⟨rfl, rfl⟩ | ⟨_, hj⟩
   · omega
   · have := h.sk hst j u hj hr v hv
     rw [j4 hs (fun _ => by omega), j4 hs (fun _ => by omega)]
     exact this
theorem Hon.set {R : Rn} (h : Hon R) (hrun : R.state = 1) {k : Nat} {s s' : Sp} (hs : R.CF[k]? = some s) (h1 : 2 ≤ s.state ∧ s.state ≤ 4) (h2 : 2 ≤ s'.state ∧ s'.state ≤ 4) : Hon (R.setS k s') :=
 ⟨h.h0.set hs h1 h2, fun _ => ⟨k, s', cv hs, by rw [ls]; omega⟩, fun e => absurd (hrun.symm.trans e) (by decide), fun e => absurd hrun e⟩
theorem lw {p : Pl} {x : KD} (h : x ∈ (S.setT p a).tms) : (x ∈ S.tms ∧ x.1 ≠ p) ∨ x = (p, a) := by
 unfold En.setT at h
 rcases List.mem_append.1 h with h | h
 · obtain ⟨h1, h2⟩ := List.mem_filter.1 h
   exact .inl ⟨h1, by simpa using h2⟩
 · exact .inr (List.mem_singleton.1 h)
theorem iW {p : Pl} {x : KD} (h : x ∈ S.tms) (hne : x.1 ≠ p) : x ∈ (S.setT p a).tms := by
 unfold En.setT
 exact List.mem_append_left _ (List.mem_filter.2 ⟨h, by simpa using hne⟩)
theorem ln {p : Pl} : (p, a) ∈ (S.setT p a).tms := by
 unfold En.setT
 exact List.mem_append_right _ (List.mem_singleton.2 rfl)
theorem Ok.running {S : En} (h : Ok S) {id k : Nat} {R : Rn} {s : Sp} (hR : S.getR id = some R) (hs : R.CF[k]? = some s) (h1 : s.state = 1 ∨ s.state = 2 ∨ s.state = 3 ∨ s.state = 4) : R.state = 1 := by
 obtain ⟨n, hn, hp⟩ := h.node hR hs
 exact hp.running h1
def je (S : En) (id k : Nat) (n : Node) : List KD := (⟨id, (k : Int), 1⟩, S.later n.close.toNat) :: (if 0 < n.beat then [(⟨id, (k : Int), 2⟩, S.later n.beat.toNat)] else [])
theorem Ok.hand_mv (h : Ok S) {q : List Pl} (hq : S.CH = ⟨id, (k : Int), 0⟩ :: q) {n : Node} (hR : S.getR id = some R) (hs : R.CF[k]? = some s) (hn : R.fl.CG[k]? = some n) (hH : Hon R) : Mv id k S (S.hand ⟨id, (k : Int), 0⟩ q R s n) R (R.setS k ⟨3, s.CE + 1, S.CC + 1⟩) (je S id k n) := by
 obtain ⟨h2, -⟩ := h.handT hq hR hs hn
 have hrun := h.running hR hs (by omega)
 rw [qD]
 obtain ⟨T, hT⟩ : ∃ T, T = S.handT id k q R s := ⟨_, rfl⟩
 have hTn : T.later = S.later := by rw [hT]; rfl
 have hTt : T.tms = S.tms := by rw [hT]; rfl
 rw [← hT]
 obtain ⟨T1, hT1⟩ : ∃ T1, T1 = T.setT ⟨id, (k : Int), 1⟩ (S.later n.close.toNat) := ⟨_, rfl⟩
 rw [← hT1]
 have hl1 : T1.later = S.later := by rw [hT1]; exact hTn
 have hlife : T1.life ⟨id, (k : Int), 0⟩ n = if 0 < n.beat then T1.setT ⟨id, (k : Int), 2⟩ (S.later n.beat.toNat) else T1 := by
  unfold En.life
  rw [hl1]
 rw [hlife]
 have fr : ∀ (P : En → Prop), P T1 → P (T1.setT ⟨id, (k : Int), 2⟩ (S.later n.beat.toNat)) → P (if 0 < n.beat then T1.setT ⟨id, (k : Int), 2⟩ (S.later n.beat.toNat) else T1) := fun P a b => by split <;> assumption
 have hg : ∀ a, T1.getR a = if a = id then some (R.setS k ⟨3, s.CE + 1, S.CC + 1⟩) else S.getR a := fun a => by
  rw [hT1, hT]
  exact iS hR a
 have g1 := hg id
 rw [if_pos rfl] at g1
 refine ⟨fr (fun U => U.getR id = _) g1 g1, fr (fun U => ∀ a, a ≠ id → U.getR a = S.getR a) ?_ ?_, fr (fun U => U.runs.map (·.1) = _) ?_ ?_, fr (fun U => U.now = S.now) ?_ ?_, fr (fun U => U.seed = S.seed) ?_ ?_, fr (fun U => U.CD = S.CD) ?_ ?_, fr (fun U => S.CC ≤ U.CC ∧ U.CC ≤ S.CC + 1) ?_ ?_, fr (fun U => U.ends ≤ S.ends + 1) ?_ ?_, fr (fun U => U.sets ≤ S.sets + 2) ?_ ?_, rfl, setS_len, fun j u hj hu => ⟨u, by rw [gG hj]; exact hu, Nx.refl u⟩, hH.set hrun hs (by omega) (by show (2 : Int) ≤ 3 ∧ (3 : Int) ≤ 4; omega), ?_, ?_, ?_⟩
 · exact fun a ha => by rw [hg, if_neg ha]
 · exact fun a ha => (hg a).trans (by rw [if_neg ha])
 · rw [hT1, hT]; exact setR_keys
 · show T1.runs.map (·.1) = _
   rw [hT1, hT]; exact setR_keys
 · rw [hT1, hT]; rfl
 · show T1.now = _
   rw [hT1, hT]; rfl
 · rw [hT1, hT]; rfl
 · show T1.seed = _
   rw [hT1, hT]; rfl
 · rw [hT1, hT]; rfl
 · show T1.CD = _
   rw [hT1, hT]; rfl
 · have : T1.CC = S.CC + 1 := by rw [hT1, hT]; rfl
   omega
 · have : T1.CC = S.CC + 1 := by rw [hT1, hT]; rfl
   show _ ≤ T1.CC ∧ T1.CC ≤ _
   omega
 · have : T1.ends = S.ends := by rw [hT1, hT]; rfl
   omega
 · have : T1.ends = S.ends := by rw [hT1, hT]; rfl
   show T1.ends ≤ _
   omega
 · have : T1.sets = S.sets + 1 := by rw [hT1, hT]; rfl
   omega
 · have : T1.sets = S.sets + 1 := by rw [hT1, hT]; rfl
   show T1.sets + 1 ≤ _
   omega
 · intro x hx
   unfold je
   have h1 : x ∈ T1.tms → x ∈ S.tms ∨ x = (⟨id, (k : Int), 1⟩, S.later n.close.toNat) := fun hx => by
    rw [hT1] at hx
    rcases lw hx with ⟨h, _⟩ | h
    · rw [hTt] at h; exact .inl h
    · exact .inr h
   split at hx
   · rename_i hb
     rw [if_pos hb]
     rcases lw hx with ⟨hx, _⟩ | rfl
     · rcases h1 hx with h | h
       · exact .inl h
       · rw [h]; exact .inr (List.mem_cons_self)
     · exact .inr (by simp)
   · rcases h1 hx with h | h
     · exact .inl h
     · rw [h]; exact .inr (List.mem_cons_self)
 · intro _ x hx hno
   have h1 : x ∈ T1.tms := by rw [hT1]; exact iW (by rw [hTt]; exact hx) (hno 1)
   split
   · exact iW h1 (hno 2)
   · exact h1
 · intro _ x hx
   unfold je at hx
   have h1 : ((⟨id, (k : Int), 1⟩ : Pl), S.later n.close.toNat) ∈ T1.tms := by rw [hT1]; exact ln
   split
   · rename_i hb
     rw [if_pos hb] at hx
     rcases List.mem_cons.1 hx with rfl | hx
     · refine iW h1 ?_
       simp
     · rw [List.mem_singleton] at hx
       subst hx
       exact ln
   · rename_i hb
     rw [if_neg hb, List.mem_singleton] at hx
     subst hx
     exact h1
theorem oK {wh : Int} (n : Node) (hR : S.getR id = some R) (_hs : R.CF[k]? = some s) (hH : Hon R) : Mv id k S (S.life ⟨id, (k : Int), wh⟩ n) R R (if 0 < n.beat then [(⟨id, (k : Int), 2⟩, S.later n.beat.toNat)] else []) := by
 have hst : ∀ (j : Nat) (u : Sp), j ≠ k → R.CF[j]? = some u → ∃ s', R.CF[j]? = some s' ∧ Nx u s' := fun j u _ hu => ⟨u, hu, Nx.refl u⟩
 unfold En.life
 split
 · refine ⟨hR, fun _ _ => rfl, rfl, rfl, rfl, rfl, ⟨Nat.le_refl _, Nat.le_succ _⟩, Nat.le_succ _, by show S.sets + 1 ≤ _; omega, rfl, rfl, hst, hH, fun x hx => ?_, fun _ x hx hno => iW hx (hno 2), fun _ x hx => ?_⟩
   · rcases lw hx with ⟨hx, _⟩ | rfl
     · exact .inl hx
     · exact .inr (List.mem_singleton.2 rfl)
   · rw [List.mem_singleton] at hx
     subst hx
     exact ln
 · exact ⟨hR, fun _ _ => rfl, rfl, rfl, rfl, rfl, ⟨Nat.le_refl _, Nat.le_succ _⟩, Nat.le_succ _, Nat.le_add_right _ _, rfl, rfl, hst, hH, fun x hx => .inl hx, fun _ x hx _ => hx, fun _ x hx => by cases hx⟩
theorem yV (hR : S.getR id = some R) (hs : R.CF[k]? = some s) (hrun : R.state = 1) (h4 : s.state = 4) (hH : Hon R) : Mv id k S (S.ready id k) R (R.setS k { s with state := 2 }) [] := by
 obtain ⟨h1, h2⟩ := nJ hR hs
 refine ⟨?_, h1.others, h1.keys, h1.now, h1.seed, h1.CD, by rw [h1.CC]; omega, by rw [h2.ends]; omega, by rw [h2.sets]; omega, rfl, setS_len, fun j u hj hu => ⟨u, by rw [gG hj]; exact hu, Nx.refl u⟩, hH.set hrun hs (by omega) (by show (2 : Int) ≤ 2 ∧ (2 : Int) ≤ 4; omega), fun x hx => .inl (by rw [← h2.tms]; exact hx), fun _ x hx _ => by rw [h2.tms]; exact hx, fun _ x hx => by cases hx⟩
 rw [hZ hR hs]
 exact ch hR
end
structure Part (id k : Nat) (S D : En) (A : Rn) : Prop where
 get : D.getR id = some A
 fr : Fr id S D
 ends : D.ends = S.ends
 sets : D.sets = S.sets
 tms : ∀ x ∈ D.tms, x ∈ S.tms
 keep : ∀ x ∈ S.tms, (∀ w, x.1 ≠ ⟨id, (k : Int), w⟩) → x ∈ D.tms
section
variable {id k : Nat} {S : En} {R : Rn} {s : Sp}
theorem qx {A : Rn} (hR : S.getR id = some R) (hs : R.CF[k]? = some s) : Part id k S ((S.leave id k).setR id A) A := by
 rw [dI hR hs]
 have e : ((({ S with CI := S.CI.eraseP (·.1 == s.token) }.setR id (R.setS k { s with token := 0 })).unset ⟨id, (k : Int), 1⟩).unset ⟨id, (k : Int), 2⟩).setR id A = { S.setR id A with CI := S.CI.eraseP (·.1 == s.token), tms := (S.tms.filter fun x => x.1 != ⟨id, (k : Int), 1⟩).filter fun x => x.1 != ⟨id, (k : Int), 2⟩ } := by
  show ((({ S with CI := S.CI.eraseP (·.1 == s.token) }.setR id (R.setS k { s with token := 0 })).setR id A).unset _).unset _ = _
  rw [ed]
  rfl
 rw [e]
 refine ⟨ch hR, ⟨fun a ha => d7 ha, setR_keys, rfl, rfl, rfl, rfl⟩, rfl, rfl, fun x hx => ?_, fun x hx hno => ?_⟩
 · exact (List.mem_filter.1 (List.mem_filter.1 hx).1).1
 · exact List.mem_filter.2 ⟨List.mem_filter.2 ⟨hx, by simpa using hno 1⟩, by simpa using hno 2⟩
theorem Ok.rests_mv (h : Ok S) (hR : S.getR id = some R) (hs : R.CF[k]? = some s) (h3 : s.state = 3) (wait : Nat) (hH : Hon R) : Mv id k S (S.rests id k R s wait) R (R.setS k ⟨4, s.CE, 0⟩) [(⟨id, (k : Int), 1⟩, S.later wait)] := by
 have hrun := h.running hR hs (by omega)
 have hp := qx (A := R.turned k s 4) hR hs
 have hl : (S.leave id k).later wait = S.later wait := by rw [dI hR hs]; rfl
 unfold En.rests
 rw [hl]
 rw [fI] at hp ⊢
 refine ⟨hp.get, hp.fr.others, hp.fr.keys, hp.fr.now, hp.fr.seed, hp.fr.CD, ⟨Nat.le_of_eq hp.fr.CC.symm, Nat.le_trans (Nat.le_of_eq hp.fr.CC) (Nat.le_succ _)⟩, Nat.le_trans (Nat.le_of_eq hp.ends) (Nat.le_succ _), Nat.le_trans (Nat.succ_le_succ (Nat.le_of_eq hp.sets)) (Nat.le_succ _), rfl, setS_len, fun j u hj hu => ⟨u, by rw [gG hj]; exact hu, Nx.refl u⟩, hH.set hrun hs (by omega) (by show (2 : Int) ≤ 4 ∧ (4 : Int) ≤ 4; omega), fun x hx => ?_, fun _ x hx hno => iW (hp.keep x hx hno) (hno 1), fun _ x hx => ?_⟩
 · rcases lw hx with ⟨hx, _⟩ | rfl
   · exact .inl (hp.tms x hx)
   · exact .inr (List.mem_singleton.2 rfl)
 · rw [List.mem_singleton] at hx
   subst hx
   exact ln
theorem Settled.mv {D W U : En} {A B R' : Rn} (hp : Part id k S D A) (hfr : Fr id D W) (hwt : W.tms = D.tms) (hwe : W.ends = D.ends) (hws : W.sets = D.sets) (hs : Settled id W U B R') (hfl : B.fl = R.fl) (hlen : B.CF.length = R.CF.length) (hst : ∀ (j : Nat) (s : Sp), j ≠ k → R.CF[j]? = some s → ∃ s', B.CF[j]? = some s' ∧ Nx s s') : Mv id k S U R R' [] := by
 have hf := (hp.fr.trans hfr).trans hs.fr
 refine ⟨hs.get, hf.others, hf.keys, hf.now, hf.seed, hf.CD, by rw [hf.CC]; omega, by have := hs.ends; rw [hwe, hp.ends] at this; exact this, by rw [hs.sets, hws, hp.sets]; omega, hs.fl.trans hfl, hs.len.trans hlen, fun j s hj hsj => ?_, hs.hon, fun x hx => .inl (hp.tms x (by rw [← hwt]; exact hs.tms x hx)), fun e x hx hno => ?_, fun _ x hx => by cases hx⟩
 · obtain ⟨s1, h1, n1⟩ := hst j s hj hsj
   obtain ⟨s2, h2, n2, _⟩ := hs.CF j s1 h1
   exact ⟨s2, h2, n1.trans n2⟩
 · rw [(hs.stay e).1, hwt]
   exact hp.keep x hx hno
theorem Ok.complete_mv (h : Ok S) {t : Nat} (ht : (S.CI.find? (·.1 == t)).map (·.2) = some ⟨id, (k : Int), 0⟩) (hR : S.getR id = some R) (hs : R.CF[k]? = some s) (h3 : s.state = 3) (hH : Hon R) : ∃ R', Mv id k S (S.complete t) R R' [] ∧ ∃ s', R'.CF[k]? = some s' ∧ s'.state = 5 ∧ s'.CE = s.CE := by
 have hrun := h.running hR hs (by omega)
 obtain ⟨n, hn, -⟩ := h.node hR hs
 have hl := (h.run id R hR).len
 rw [mS ht hR hs]
 have hp := qx (A := R.turned k s 5) hR hs
 have hok : Ok ((S.leave id k).setR id (R.turned k s 5)) := (h.part hR hs hn h3 (st := 5) (.inl rfl))
 have hok2 := hok.wake id
 have hak := wm hs 5
 have hal : (R.turned k s 5).CF.length = (R.turned k s 5).fl.CG.length := by rw [fI]; exact setS_len.trans hl
 obtain ⟨w1, w2, w3, -⟩ := vn hp.get hal
 obtain ⟨A, hA⟩ : ∃ A, A = R.turned k s 5 := ⟨_, rfl⟩
 have hAe : A = R.setS k ⟨5, s.CE, 0⟩ := by rw [hA, fI]
 rw [← hA] at hp hak hal w1 w2 w3
 have h0 : Hon0 (du A A.CF.length) := by
  refine Hon0.wake hal (fun j u hj hr => ?_) fun j u hj h1 v hv => ?_
  · rw [hAe] at hj ⊢
    refine yS hs (fun _ => rfl) ?_
    rcases fm hj with ⟨rfl, rfl⟩ | ⟨_, hj⟩
    · exact hH.h0.up _ s hs (by omega)
    · exact hH.h0.up j u hj hr
  · rw [hAe] at hj hv ⊢
    rcases fm hj with ⟨rfl, rfl⟩ | ⟨_, hj⟩
    · replace h1 : (5 : Int) = 1 := h1
      omega
    · have := hH.h0.sk hrun j u hj h1 v hv
      rw [j4 hs (fun _ => by show (5 : Int) = 6 ↔ _; omega), j4 hs (fun _ => by show (5 : Int) = 7 ↔ _; omega)]
      exact this
 have hArun : (du A A.CF.length).state = 1 := by rw [hAe]; exact hrun
 rw [← hA] at hok2 ⊢
 obtain ⟨R', hset⟩ := hok2.settled w1 hArun h0
 refine ⟨R', Settled.mv (B := du A A.CF.length) hp w2 w3.tms w3.ends w3.sets hset (by rw [hAe]; rfl) (by rw [dJ, hAe, setS_len]) fun j u hj hu => ?_, ?_⟩
 · refine yF ?_
   rw [hAe, gG hj]
   exact hu
 · have hk1 := d9 (n := A.CF.length) hak
   have hf : dv A k = false := by
    cases hf : dv A k with
    | false => rfl
    | true =>
     have := nP hak hf
     replace this : (5 : Int) = 1 := this
     omega
   rw [hf] at hk1
   simp only [Bool.false_eq_true, and_false, if_false] at hk1
   obtain ⟨s', g1, g2, g3⟩ := hset.CF k _ hk1
   exact ⟨s', g1, g3, g2.CE⟩
theorem Av {f : Flow} (hf : Fit f) : ∃ T, Ordering f.CG 0 T := by
 have key : ∀ (m left : Nat) (told : List Nat), Ordering f.CG left told → f.CG.length - told.length ≤ m → ∃ T, Ordering f.CG 0 T := by
  intro m
  induction m with
  | zero =>
   intro left told h hm
   refine ⟨told, ?_⟩
   have : left = 0 := Nat.eq_of_testBit_eq fun i => by
    rw [Nat.zero_testBit]
    cases hb : left.testBit i with
    | false => rfl
    | true =>
     obtain ⟨h1, h2⟩ := (h.bits i).1 hb
     have := lu (l := i :: told) (m := List.range f.CG.length) (List.nodup_cons.2 ⟨h2, h.nodup⟩) (fun x hx => by
      rcases List.mem_cons.1 hx with rfl | hx
      · exact List.mem_range.2 h1
      · exact List.mem_range.2 (h.lt x hx))
     rw [List.length_range] at this
     simp only [List.length_cons] at this
     omega
   rw [this] at h
   exact h
  | succ m ih =>
   intro left told h hm
   by_cases hs : ∀ i, left.testBit i = true → ∃ k ∈ dg f.CG i, left.testBit k = true
   · have := h.zero hf hs
     rw [this] at h
     exact ⟨told, h⟩
   · have : ∃ i, left.testBit i = true ∧ ∀ k ∈ dg f.CG i, left.testBit k = false := Classical.byContradiction fun hn => hs fun i hi => Classical.byContradiction fun hk => hn ⟨i, hi, fun k hm => by
      cases hb : left.testBit k with
      | false => rfl
      | true => exact absurd ⟨k, hm, hb⟩ hk⟩
     obtain ⟨i, hi, hno⟩ := this
     refine ih (left ^^^ (1 <<< i)) (told ++ [i]) (h.tell hi hno fun j => ?_) (by simp; omega)
     rw [Nat.testBit_xor, jE]
     by_cases hj : j = i
     · subst hj
       simp [hi]
     · simp [hj]
 exact key _ _ _ (Ordering.start _) (Nat.le_refl _)
theorem Ok.dies_mv (h : Ok S) {n : Node} (hR : S.getR id = some R) (hs : R.CF[k]? = some s) (hn : R.fl.CG[k]? = some n) (h3 : s.state = 3) (hb : s.CE = n.CJ) (hH : Hon R) : ∃ R', Mv id k S (S.dies id k R s (np R.fl.CG)) R R' [] ∧ ∃ s', R'.CF[k]? = some s' ∧ s'.state = 6 ∧ s'.CE = s.CE := by
 have hrun := h.running hR hs (by omega)
 have hro := h.run id R hR
 have hl := hro.len
 obtain ⟨A, hA⟩ : ∃ A, A = R.turned k s 6 := ⟨_, rfl⟩
 have hAe : A = R.setS k ⟨6, s.CE, 0⟩ := by rw [hA, fI]
 obtain ⟨T, hT⟩ : ∃ T, T = np R.fl.CG := ⟨_, rfl⟩
 have hex : ∃ T, Ordering R.fl.CG 0 T := by
  have := Av hro.fl
  exact this
 have hto : Ordering R.fl.CG 0 T := by
  rw [hT]
  unfold np
  rw [dif_pos hex]
  exact hex.choose_spec
 unfold En.dies
 rw [← hT, ← hA]
 have hp := qx (A := (R.turned k s 6).skips T) hR hs
 have hok : Ok ((S.leave id k).setR id ((R.turned k s 6).skips T)) := by
  have h1 := h.part hR hs hn h3 (st := 6) (.inr (.inr ⟨rfl, hb⟩))
  have h2 := Ok.skips (id := id) T h1 (ki hR hs)
  rw [ed] at h2
  exact h2
 rw [← hA] at hp hok
 have hal : A.CF.length = R.fl.CG.length := by rw [hAe, setS_len]; exact hl
 have hAfl : A.fl = R.fl := by rw [hAe]; rfl
 have hsk := fun j u hj => lm (ns := R.fl.CG) (l := A.CF) hal T.length T rfl (hto.beh hro.fl) j u hj
 obtain ⟨B, hB⟩ : ∃ B, B = A.skips T := ⟨_, rfl⟩
 have hBs : B.CF = T.foldl (bY R.fl.CG) A.CF := by rw [hB]; unfold Rn.skips; rw [hAfl]
 have hBfl : B.fl = R.fl := by rw [hB]; exact hAfl
 have hBlen : B.CF.length = R.CF.length := by rw [hBs, ka, hal, hl]
 rw [← hBs] at hsk
 rw [← hB] at hp hok ⊢
 have hback : ∀ (j : Nat) (u : Sp), B.CF[j]? = some u → ∃ v, A.CF[j]? = some v ∧ ((v.state = 1 ∧ u = { v with state := 7 }) ∨ (u = v ∧ ¬ (v.state = 1 ∧ ∃ y ∈ dg R.fl.CG j, bS B.CF y 6 = true ∨ bS B.CF y 7 = true))) := fun j u hj => by
  have hlt : j < A.CF.length := by have := (List.getElem?_eq_some_iff.1 hj).1; rw [hBlen] at this; rw [hal, ← hl]; exact this
  have hv : A.CF[j]? = some (A.CF[j]) := List.getElem?_eq_getElem hlt
  refine ⟨_, hv, ?_⟩
  obtain ⟨g1, g2⟩ := hsk j _ hv
  by_cases hc : (A.CF[j]).state = 1 ∧ ∃ y ∈ dg R.fl.CG j, bS B.CF y 6 = true ∨ bS B.CF y 7 = true
  · have := g1 ⟨hto.full j (by rw [← hal]; exact hlt), hc⟩
    rw [hj] at this
    injection this with this
    exact .inl ⟨hc.1, this⟩
  · have := g2 fun h => hc h.2
    rw [hj] at this
    injection this with this
    exact .inr ⟨this, hc⟩
 have h5 : ∀ u, bS B.CF u 5 = bS R.CF u 5 := fun u => by
  have ha : bS A.CF u 5 = bS R.CF u 5 := by rw [hAe]; exact j4 hs fun _ => by show (6 : Int) = 5 ↔ _; omega
  rw [← ha, Bool.eq_iff_iff, isAt_iff, isAt_iff]
  constructor
  · rintro ⟨x, hx, e⟩
    obtain ⟨v, hv, ⟨_, rfl⟩ | ⟨rfl, _⟩⟩ := hback u x hx
    · replace e : (7 : Int) = 5 := e
      omega
    · exact ⟨_, hv, e⟩
  · rintro ⟨x, hx, e⟩
    exact ⟨x, (hsk u x hx).2 (fun h => by omega), e⟩
 have hup : ∀ j, gV B j ↔ gV R j := fun j => by
  unfold gV
  rw [hBfl]
  simp only [h5]
 have h0 : Hon0 B := by
  refine ⟨fun j u hj hr => ?_, fun _ j u hj h1 => ?_, fun _ j u hj h1 v hv => ?_⟩
  · rw [hup]
    obtain ⟨v, hv, ⟨_, rfl⟩ | ⟨rfl, _⟩⟩ := hback j u hj
    · have : (2 : Int) ≤ 7 ∧ (7 : Int) ≤ 6 := hr
      omega
    · rw [hAe] at hv
      rcases fm hv with ⟨rfl, rfl⟩ | ⟨_, hv⟩
      · exact hH.h0.up _ s hs (by omega)
      · exact hH.h0.up j _ hv hr
  · rw [hup]
    obtain ⟨v, hv, ⟨_, rfl⟩ | ⟨rfl, _⟩⟩ := hback j u hj
    · replace h1 : (7 : Int) = 1 := h1
      omega
    · rw [hAe] at hv
      rcases fm hv with ⟨rfl, rfl⟩ | ⟨_, hv⟩
      · replace h1 : (6 : Int) = 1 := h1
        omega
      · exact hH.h0.wt hrun j _ hv h1
  · obtain ⟨x, hx, ⟨_, rfl⟩ | ⟨rfl, hc⟩⟩ := hback j u hj
    · replace h1 : (7 : Int) = 1 := h1
      omega
    · rw [hBfl] at hv
      constructor
      · cases hi : bS B.CF v 6 with
        | false => rfl
        | true => exact absurd ⟨h1, v, hv, .inl hi⟩ hc
      · cases hi : bS B.CF v 7 with
        | false => rfl
        | true => exact absurd ⟨h1, v, hv, .inr hi⟩ hc
 have hBrun : B.state = 1 := by rw [hB, hAe]; exact hrun
 obtain ⟨R', hset⟩ := hok.settled hp.get hBrun h0
 refine ⟨R', Settled.mv hp (Fr.refl _ _) rfl rfl rfl hset hBfl hBlen fun j u hj hu => ?_, ?_⟩
 · have hu' : A.CF[j]? = some u := by rw [hAe, gG hj]; exact hu
   obtain ⟨g1, g2⟩ := hsk j u hu'
   by_cases hc : u.state = 1 ∧ ∃ y ∈ dg R.fl.CG j, bS B.CF y 6 = true ∨ bS B.CF y 7 = true
   · exact ⟨_, g1 ⟨hto.full j (by rw [← hal]; exact (List.getElem?_eq_some_iff.1 hu').1), hc⟩, Nx.skip hc.1⟩
   · exact ⟨_, g2 fun h => hc h.2, Nx.refl u⟩
 · have hk' : A.CF[k]? = some ⟨6, s.CE, 0⟩ := by rw [hAe]; exact cv hs
   have hkB : B.CF[k]? = some ⟨6, s.CE, 0⟩ := (hsk k _ hk').2 fun h => by
    have := h.2.1
    replace this : (6 : Int) = 1 := this
    omega
   obtain ⟨s', g1, g2, g3⟩ := hset.CF k _ hkB
   exact ⟨s', g1, g3, g2.CE⟩
end
end FK

namespace FK
structure Lone (id : Nat) (F : Flow) (S : En) (R : Rn) : Prop where
 ok : Ok S
 get : S.getR id = some R
 fl : R.fl = F
 seed : S.seed = 0
 alone : ∀ a A, a ≠ id → S.getR a = some A → A.state ≠ 1
 hon : Hon R
 due : ∀ x ∈ S.tms, S.now ≤ x.2
structure Wt (R R' : Rn) : Prop where
 len : R'.CF.length = R.CF.length
 tr : ∀ (k : Nat) (s s' : Sp), R.CF[k]? = some s → R'.CF[k]? = some s' → s.CE ≤ s'.CE ∧ (over s = true → s'.state = s.state)
 st : R.state ≠ 1 → R'.state = R.state
theorem Wt.refl (R : Rn) : Wt R R := ⟨rfl, fun k s s' h h' => by rw [h] at h'; injection h' with h'; subst h'; exact ⟨Int.le_refl _, fun _ => rfl⟩, fun _ => rfl⟩
theorem Wt.trans {A B C : Rn} (h : Wt A B) (k : Wt B C) : Wt A C := ⟨k.len.trans h.len, fun j s s' hs hs' => by
 have hlt : j < B.CF.length := by rw [h.len]; exact (List.getElem?_eq_some_iff.1 hs).1
 have hb : B.CF[j]? = some (B.CF[j]) := List.getElem?_eq_getElem hlt
 obtain ⟨a1, a2⟩ := h.tr j s _ hs hb
 obtain ⟨b1, b2⟩ := k.tr j _ s' hb hs'
 refine ⟨Int.le_trans a1 b1, fun ho => ?_⟩
 have e := a2 ho
 rw [← e]
 exact b2 (by rw [over_iff] at ho ⊢; omega), fun hr => by
 have := h.st hr
 rw [← this]
 exact k.st (by rw [this]; exact hr)⟩
def BQ (id : Nat) (S : En) (R : Rn) (rd : Nat → Nat) : Prop := ∀ (k : Nat) (s : Sp), R.CF[k]? = some s → (s.state = 1 ∨ s.state = 2 ∨ s.state = 3 → rd k ≤ S.now) ∧ (s.state = 4 → ∀ a, ((⟨id, (k : Int), 1⟩ : Pl), a) ∈ S.tms → rd k ≤ a)
structure Hd where
 node : Nat
 tri : Int
 tok : Nat
structure Tsk (S : En) (R : Rn) (ts : List Hd) : Prop where
 nd : (ts.map (·.tok)).Nodup
 low : ∀ a ∈ ts, 1 ≤ a.tok ∧ a.tok ≤ S.CC
 at_ : ∀ a ∈ ts, 1 ≤ a.tri ∧ ∃ s, R.CF[a.node]? = some s ∧ a.tri ≤ s.CE
 inj : ∀ a ∈ ts, ∀ b ∈ ts, a.node = b.node → a.tri = b.tri → a = b
 work : ∀ (k : Nat) (s : Sp), R.CF[k]? = some s → s.state = 3 → ⟨k, s.CE, s.token⟩ ∈ ts
theorem Lone.live {id : Nat} {F : Flow} {S : En} {R : Rn} (h : Lone id F S R) {a k : Nat} {s : Sp} (hs : S.stp a k = some s) (h1 : s.state = 1 ∨ s.state = 2 ∨ s.state = 3 ∨ s.state = 4) : a = id ∧ R.CF[k]? = some s := by
 obtain ⟨A, hA, hs⟩ := iq hs
 have hr := h.ok.running hA hs h1
 have : a = id := Classical.byContradiction fun hn => h.alone a A hn hA hr
 subst this
 rw [h.get] at hA
 injection hA with hA
 subst hA
 exact ⟨rfl, hs⟩
theorem Tsk.works {id : Nat} {F : Flow} {S : En} {R : Rn} {ts : List Hd} (h : Tsk S R ts) (hL : Lone id F S R) {a : Hd} (ha : a ∈ ts) {s : Sp} (hs : R.CF[a.node]? = some s) : (s.state = 3 ∧ s.CE = a.tri) ↔ S.CI.any (·.1 == a.tok) = true := by
 rw [List.any_eq_true]
 constructor
 · rintro ⟨h3, ht⟩
   have := h.inj _ (h.work a.node s hs h3) a ha rfl ht
   have e : s.token = a.tok := by rw [← this]
   exact ⟨_, hL.ok.task hL.get hs h3, by simpa using e⟩
 · rintro ⟨⟨t, p⟩, hm, e⟩
   have e : t = a.tok := by simpa using e
   subst e
   obtain ⟨i, k, u, rfl, hu, h3, ht⟩ := (hL.ok.CI _ _).1 hm
   obtain ⟨rfl, hu⟩ := hL.live hu (by omega)
   have hb := h.work k u hu h3
   have hab : (⟨k, u.CE, u.token⟩ : Hd) = a := ea h.nd hb ha ht
   rw [← hab] at hs ⊢
   simp only at hs
   rw [hu] at hs
   injection hs with hs
   subst hs
   exact ⟨h3, rfl⟩
theorem Tsk.find {id : Nat} {F : Flow} {S : En} {R : Rn} {ts : List Hd} (h : Tsk S R ts) (hL : Lone id F S R) {a : Hd} (ha : a ∈ ts) {s : Sp} (hs : R.CF[a.node]? = some s) (h3 : s.state = 3) (ht : s.CE = a.tri) : (S.CI.find? (·.1 == a.tok)).map (·.2) = some ⟨id, (a.node : Int), 0⟩ := by
 have := h.inj _ (h.work a.node s hs h3) a ha rfl ht
 have e : s.token = a.tok := by rw [← this]
 have hm := hL.ok.task hL.get hs h3
 rw [e] at hm
 cases hf : S.CI.find? (·.1 == a.tok) with
 | none =>
  have := List.find?_eq_none.1 hf _ hm
  simp at this
 | some x =>
  have h1 := List.mem_of_find?_eq_some hf
  have h2 := List.find?_some hf
  have : x = (a.tok, ⟨id, (a.node : Int), 0⟩) := ea hL.ok.tkeys h1 hm (by simpa using h2)
  rw [this]
  rfl
theorem iR {S : En} (h : S.now ≤ 4611686018427387904) (n : Nat) : S.now ≤ S.later n := by unfold En.later; omega
section
variable {id k : Nat} {F : Flow} {S U : En} {R R' : Rn} {new : List KD}
theorem Mv.lone (hm : Mv id k S U R R' new) (hL : Lone id F S R) (hok : Ok U) (hnew : ∀ x ∈ new, S.now ≤ x.2) : Lone id F U R' :=
 ⟨hok, hm.get, hm.fl.trans hL.fl, hm.seed.trans hL.seed, fun a A ha hA => hL.alone a A ha (by rw [← hm.others a ha]; exact hA), hm.hon, fun x hx => by
  rw [hm.now]
  rcases hm.tms x hx with h | h
  · exact hL.due x h
  · exact hnew x h⟩
theorem Mv.wt (hm : Mv id k S U R R' new) (hrun : R.state = 1) (hk : ∀ s s', R.CF[k]? = some s → R'.CF[k]? = some s' → s.CE ≤ s'.CE ∧ (over s = true → s'.state = s.state)) : Wt R R' :=
 ⟨hm.len, fun j s s' hs hs' => by
  by_cases hj : j = k
  · subst hj
    exact hk s s' hs hs'
  · obtain ⟨u, hu, hn⟩ := hm.CF j s hj hs
    rw [hs'] at hu
    injection hu with hu
    subst hu
    exact ⟨Int.le_of_eq hn.CE.symm, hn.ov⟩, fun h => absurd hrun h⟩
theorem Mv.back (hm : Mv id k S U R R' new) {j : Nat} {s' : Sp} (hj : j ≠ k) (hs' : R'.CF[j]? = some s') : ∃ s, R.CF[j]? = some s ∧ Nx s s' := by
 have hlt : j < R.CF.length := by rw [← hm.len]; exact (List.getElem?_eq_some_iff.1 hs').1
 have hs : R.CF[j]? = some (R.CF[j]) := List.getElem?_eq_getElem hlt
 obtain ⟨u, hu, hn⟩ := hm.CF j _ hj hs
 rw [hs'] at hu
 injection hu with hu
 subst hu
 exact ⟨_, hs, hn⟩
theorem Mv.rdy (hm : Mv id k S U R R' new) {rd rd' : Nat → Nat} (hr : BQ id S R rd) (hnk : ∀ x ∈ new, ∃ w, x.1 = ⟨id, (k : Int), w⟩) (hne : ∀ j, j ≠ k → rd' j = rd j)
 (hk : ∀ s', R'.CF[k]? = some s' → (s'.state = 1 ∨ s'.state = 2 ∨ s'.state = 3 → rd' k ≤ U.now) ∧ (s'.state = 4 → ∀ a, ((⟨id, (k : Int), 1⟩ : Pl), a) ∈ U.tms → rd' k ≤ a)) : BQ id U R' rd' := by
 intro j s' hs'
 by_cases hj : j = k
 · subst hj
   exact hk s' hs'
 · obtain ⟨s, hs, hn⟩ := hm.back hj hs'
   obtain ⟨a1, a2⟩ := hr j s hs
   rw [hne j hj, hm.now]
   refine ⟨fun h => a1 ?_, fun h4 a ha => ?_⟩
   · rcases h with h | h | h
     · exact .inl (hn.w1 h)
     · rcases hn.w2 h with h | h
       · exact .inr (.inl h)
       · exact .inl h
     · have := hn.w3 h
       rw [← this]
       exact .inr (.inr h)
   · rcases hm.tms _ ha with h | h
     · exact a2 (hn.w4 h4) a h
     · obtain ⟨w, e⟩ := hnk _ h
       obtain ⟨_, e, _⟩ := gA e
       exact absurd e hj
theorem Mv.tsk (hm : Mv id k S U R R' new) (hrun : R.state = 1) {ts : List Hd} (hT : Tsk S R ts) (hk : ∀ s s', R.CF[k]? = some s → R'.CF[k]? = some s' → s.CE ≤ s'.CE ∧ (over s = true → s'.state = s.state) ∧ (s'.state = 3 → s' = s)) : Tsk U R' ts := by
 have hw := hm.wt hrun fun s s' h h' => ⟨(hk s s' h h').1, (hk s s' h h').2.1⟩
 refine ⟨hT.nd, fun a ha => ⟨(hT.low a ha).1, Nat.le_trans (hT.low a ha).2 hm.CC.1⟩, fun a ha => ?_, hT.inj, fun j s' hs' h3 => ?_⟩
 · obtain ⟨h1, s, hs, h2⟩ := hT.at_ a ha
   have hlt : a.node < R'.CF.length := by rw [hm.len]; exact (List.getElem?_eq_some_iff.1 hs).1
   have hs' : R'.CF[a.node]? = some (R'.CF[a.node]) := List.getElem?_eq_getElem hlt
   exact ⟨h1, _, hs', Int.le_trans h2 (hw.tr _ _ _ hs hs').1⟩
 · by_cases hj : j = k
   · subst hj
     have hlt : j < R.CF.length := by rw [← hm.len]; exact (List.getElem?_eq_some_iff.1 hs').1
     have hs : R.CF[j]? = some (R.CF[j]) := List.getElem?_eq_getElem hlt
     have := (hk _ _ hs hs').2.2 h3
     rw [this] at h3 ⊢
     exact hT.work j _ hs h3
   · obtain ⟨s, hs, hn⟩ := hm.back hj hs'
     have := hn.w3 h3
     rw [this] at h3 ⊢
     exact hT.work j s hs h3
theorem Fin.mv {st : Int} (h : Fin id S U R R' st) (hst : st ≠ 1) (hH : Hon R') : Mv id R.CF.length S U R R' [] :=
 ⟨h.get, h.fr.others, h.fr.keys, h.fr.now, h.fr.seed, h.fr.CD, ⟨Nat.le_of_eq h.fr.CC.symm, Nat.le_trans (Nat.le_of_eq h.fr.CC) (Nat.le_succ _)⟩, Nat.le_of_eq h.ends, Nat.le_trans (Nat.le_of_eq h.sets) (Nat.le_add_right _ _), h.fl, h.len, fun j s _ hs => ⟨_, h.CF j s hs, Nx.ended s⟩, hH, fun x hx => .inl (h.tms x hx), fun e => absurd (h.state.symm.trans e) hst, fun _ x hx => by cases hx⟩
end
structure Go (id : Nat) (F : Flow) (S U : En) (R R' : Rn) : Prop where
 lone : Lone id F U R'
 wt : Wt R R'
 rdy : ∀ rd, BQ id S R rd → BQ id U R' rd
 tsk : ∀ ts, Tsk S R ts → Tsk U R' ts
 now : S.now ≤ U.now
 keys : U.runs.map (·.1) = S.runs.map (·.1)
 CD : U.CD = S.CD
 CC : U.CC ≤ S.CC
theorem Go.refl {id : Nat} {F : Flow} {S : En} {R : Rn} (h : Lone id F S R) : Go id F S S R R := ⟨h, Wt.refl R, fun _ h => h, fun _ h => h, Nat.le_refl _, rfl, rfl, Nat.le_refl _⟩
theorem Go.trans {id : Nat} {F : Flow} {S T U : En} {R A B : Rn} (h : Go id F S T R A) (k : Go id F T U A B) : Go id F S U R B :=
 ⟨k.lone, h.wt.trans k.wt, fun rd hr => k.rdy rd (h.rdy rd hr), fun ts ht => k.tsk ts (h.tsk ts ht), Nat.le_trans h.now k.now, k.keys.trans h.keys, k.CD.trans h.CD, Nat.le_trans k.CC h.CC⟩
theorem Lone.failed {id : Nat} {F : Flow} {S : En} {R : Rn} (hL : Lone id F S R) {k : Nat} {s : Sp} (hs : R.CF[k]? = some s) (h3 : s.state = 3) : ∃ R' s' n, F.CG[k]? = some n ∧ R'.CF[k]? = some s' ∧ s'.CE = s.CE ∧ (s'.state = 4 ∨ s'.state = 6) ∧ ∃ new, Mv id k S (S.failed id k) R R' new ∧ (∀ x ∈ new, S.now ≤ x.2) ∧ (∀ x ∈ new, ∃ w, x.1 = ⟨id, (k : Int), w⟩) ∧ Ok (S.failed id k) ∧ (s'.state = 4 → R'.state = 1 ∧ R' = R.setS k ⟨4, s.CE, 0⟩ ∧ new = [(⟨id, (k : Int), 1⟩, S.later (dk n.base n.cap n.CK s.CE 0).toNat)]) ∧ (s'.state = 6 → new = []) := by
 obtain ⟨n, hn, hp⟩ := hL.ok.node hL.get hs
 have hrun := hL.ok.running hL.get hs (by omega)
 have hok := hL.ok.failed hL.get hs h3
 have hn' : F.CG[k]? = some n := by rw [← hL.fl]; exact hn
 have hf := gS hL.get hs hn
 by_cases hb : s.CE < n.CJ
 · rw [if_pos hb] at hf
   rw [hf] at hok ⊢
   refine ⟨R.setS k ⟨4, s.CE, 0⟩, ⟨4, s.CE, 0⟩, n, hn', cv hs, rfl, .inl rfl, _, hL.ok.rests_mv hL.get hs h3 _ hL.hon, fun x hx => ?_, fun x hx => ?_, hok, fun _ => ⟨hrun, rfl, by rw [hL.seed]; rfl⟩, fun e => by replace e : (4 : Int) = 6 := e; omega⟩
   · rw [List.mem_singleton] at hx
     subst hx
     exact iR hL.ok.now _
   · rw [List.mem_singleton] at hx
     subst hx
     exact ⟨_, rfl⟩
 · rw [if_neg hb] at hf
   rw [hf] at hok ⊢
   obtain ⟨R', hm, s', h1, h2, h4⟩ := hL.ok.dies_mv hL.get hs hn h3 (by have := hp.trb; omega) hL.hon
   exact ⟨R', s', n, hn', h1, h4, .inr h2, [], hm, fun x hx => (by cases hx), fun x hx => (by cases hx), hok, fun e => by omega, fun _ => rfl⟩
theorem oQ (ba ca ji k : Int) (h1 : 1 ≤ ba) (h2 : ba ≤ ca) : 1 ≤ dk ba ca ji k 0 := by
 unfold dk
 have h0 : (0 : Int) % (ji + 1) = 0 := Int.zero_emod _
 rw [h0]
 split
 · omega
 · split
   · have hp : (1 : Int) ≤ 2 ^ (k.toNat - 1) := by
      have := Nat.one_le_two_pow (n := k.toNat - 1)
      exact_mod_cast this
     have : ba * 1 ≤ ba * 2 ^ (k.toNat - 1) := Int.mul_le_mul_of_nonneg_left hp (by omega)
     omega
   · omega
theorem Lone.due_go {id : Nat} {F : Flow} {S : En} {R : Rn} (hL : Lone id F S R) {x : KD} {tms' : List KD} (hm : IsMin S.tms x tms') : ∃ R', Go id F S ({ S with now := x.2, tms := tms' }.due x.1) R R' := by
 obtain ⟨hok1, hno, R1, hR1, htm⟩ := hL.ok.pop hm
 have hxm := hm.mem
 have hperm := hm.perm
 have hrid : x.1.run = id := Classical.byContradiction fun hn => hL.alone _ R1 hn hR1 htm.1
 have hR1' : R1 = R := by rw [hrid, hL.get] at hR1; injection hR1 with hR1; exact hR1.symm
 subst hR1'
 have hrun := htm.1
 obtain ⟨S1, hS1⟩ : ∃ S1 : En, S1 = { S with now := x.2, tms := tms' } := ⟨_, rfl⟩
 have hL1 : Lone id F S1 R1 := by
  rw [hS1]
  refine ⟨hok1, hL.get, hL.fl, hL.seed, hL.alone, hL.hon, fun y hy => ?_⟩
  exact hm.le y (hperm.mem_iff.2 (.tail _ hy))
 have hrd1 : ∀ rd, BQ id S R1 rd → BQ id S1 R1 rd := fun rd hr j s hs => by
  obtain ⟨a1, a2⟩ := hr j s hs
  rw [hS1]
  exact ⟨fun h => Nat.le_trans (a1 h) (hL.due x hxm), fun h a ha => a2 h a (hperm.mem_iff.2 (.tail _ ha))⟩
 have hts1 : ∀ ts, Tsk S R1 ts → Tsk S1 R1 ts := fun ts h => by
  rw [hS1]
  exact ⟨h.nd, h.low, h.at_, h.inj, h.work⟩
 have hg0 : Go id F S S1 R1 R1 := ⟨hL1, Wt.refl _, hrd1, hts1, by rw [hS1]; exact hL.due x hxm, by rw [hS1], by rw [hS1], by rw [hS1]; exact Nat.le_refl _⟩
 rw [← hS1] at hok1 ⊢
 have hR1' : S1.getR x.1.run = some R1 := by rw [hrid]; exact hL1.get
 have hokU := hok1.due hR1' htm (by rw [hS1]; exact hno)
 obtain ⟨p, hp⟩ : ∃ p, p = x.1 := ⟨_, rfl⟩
 rw [← hp] at hR1' htm hrid hokU ⊢
 rcases i7 hR1' htm with ⟨_, e⟩ | ⟨k, s, hs, ⟨e1, h4, e⟩ | ⟨_, h3, e⟩⟩
 · rw [e, hrid] at hokU ⊢
   obtain ⟨R', hF⟩ := hok1.fin hL1.get 5
   have hmv := hF.mv (by decide) (hF.hon (by decide) (by decide) hL1.hon hrun)
   have hnone : ∀ {α : Prop} (s : Sp), R1.CF[R1.CF.length]? = some s → α := fun s hs => by
    have := (List.getElem?_eq_some_iff.1 hs).1
    omega
   refine ⟨R', hg0.trans ⟨hmv.lone hL1 hokU (fun x hx => by cases hx), hmv.wt hrun fun s s' h _ => hnone s h, fun rd hr => hmv.rdy hr (fun x hx => by cases hx) (fun _ _ => rfl) fun s' hs' => ?_, fun ts ht => hmv.tsk hrun ht fun s s' h _ => hnone s h, Nat.le_of_eq hmv.now.symm, hmv.keys, hmv.CD, Nat.le_of_eq hF.fr.CC⟩⟩
   have := (List.getElem?_eq_some_iff.1 hs').1
   rw [hF.len] at this
   omega
 · rw [e, hrid] at hokU ⊢
   have hmv := yV hL1.get hs hrun h4 hL1.hon
   have hk : ∀ u u', R1.CF[k]? = some u → (R1.setS k { s with state := 2 }).CF[k]? = some u' → u = s ∧ u' = { s with state := 2 } := fun u u' h h' => by
    rw [hs] at h
    rw [cv hs] at h'
    injection h with h
    injection h' with h'
    exact ⟨h.symm, h'.symm⟩
   have hnot : ¬ over s = true := by rw [over_iff]; omega
   have hL2 := hmv.lone hL1 hokU (fun x hx => by cases hx)
   refine ⟨_, ⟨hL2, hmv.wt hrun fun u u' h h' => ?_, fun rd hr => hmv.rdy (hrd1 rd hr) (fun x hx => by cases hx) (fun _ _ => rfl) fun u' h' => ?_, fun ts ht => hmv.tsk hrun (hts1 ts ht) fun u u' h h' => ?_, Nat.le_trans hg0.now (Nat.le_of_eq hmv.now.symm), hmv.keys.trans hg0.keys, hmv.CD.trans hg0.CD, ?_⟩⟩
   · obtain ⟨rfl, rfl⟩ := hk u u' h h'
     exact ⟨Int.le_refl _, fun h => absurd h hnot⟩
   · obtain ⟨_, rfl⟩ := hk s u' hs h'
     refine ⟨fun _ => ?_, fun e => by replace e : (2 : Int) = 4 := e; omega⟩
     rw [hmv.now, hS1]
     have hmem : ((⟨id, (k : Int), 1⟩ : Pl), x.2) ∈ S.tms := by
      rw [← hrid, ← e1, hp]
      exact hxm
     exact (hr k s hs).2 h4 _ hmem
   · obtain ⟨rfl, rfl⟩ := hk u u' h h'
     exact ⟨Int.le_refl _, fun h => absurd h hnot, fun e => by replace e : (2 : Int) = 3 := e; omega⟩
   · have : (S1.ready id k).CC = S1.CC := (nJ hL1.get hs).1.CC
     rw [this]
     exact hg0.CC
 · rw [e, hrid] at hokU ⊢
   obtain ⟨R', s', n, hn, hs', ht, hst, new, hmv, hnew, hnk, _, h4, _⟩ := hL1.failed hs h3
   have hnot : ¬ over s = true := by rw [over_iff]; omega
   have hk : ∀ u u', R1.CF[k]? = some u → R'.CF[k]? = some u' → u = s ∧ u' = s' := fun u u' h h' => by
    rw [hs] at h
    rw [hs'] at h'
    injection h with h
    injection h' with h'
    exact ⟨h.symm, h'.symm⟩
   refine ⟨R', hg0.trans ⟨hmv.lone hL1 hokU hnew, hmv.wt hrun fun u u' h h' => ?_, fun rd hr => hmv.rdy hr hnk (fun _ _ => rfl) fun u' h' => ?_, fun ts hT => hmv.tsk hrun hT fun u u' h h' => ?_, Nat.le_of_eq hmv.now.symm, hmv.keys, hmv.CD, ?_⟩⟩
   · obtain ⟨rfl, rfl⟩ := hk u u' h h'
     exact ⟨Int.le_of_eq ht.symm, fun h => absurd h hnot⟩
   · obtain ⟨_, rfl⟩ := hk s u' hs h'
     have hle := (hr k s hs).1 (.inr (.inr h3))
     refine ⟨fun e => by omega, fun _ a ha => ?_⟩
     rcases hmv.tms _ ha with h | h
     · exact Nat.le_trans hle (hL1.due _ h)
     · exact Nat.le_trans hle (hnew _ h)
   · obtain ⟨rfl, rfl⟩ := hk u u' h h'
     exact ⟨Int.le_of_eq ht.symm, fun h => absurd h hnot, fun e => by omega⟩
   · have := (hok1.due_less (by rw [hrid]; exact hL1.get) htm).CC
     rw [e, hrid] at this
     exact Nat.le_of_eq this
theorem Ticks.go {up : Nat} {S U : En} (h : Ticks up S U) : ∀ {id : Nat} {F : Flow} {R : Rn}, S.now ≤ up → up ≤ 4611686018427387904 → Lone id F S R → ∃ R', Go id F S U R R' ∧ U.now = up ∧ ∀ x ∈ U.tms, up < x.2 := by
 induction h with
 | @done S hd =>
  intro id F R hle hup hL
  refine ⟨R, ⟨⟨hL.ok.times (sets := _) hup hL.ok.knd hL.ok.tms, hL.get, hL.fl, hL.seed, hL.alone, hL.hon, fun x hx => Nat.le_of_lt (hd x hx)⟩, Wt.refl _, fun rd hr j s hs => ⟨fun e => Nat.le_trans ((hr j s hs).1 e) hle, (hr j s hs).2⟩, fun ts ht => ⟨ht.nd, ht.low, ht.at_, ht.inj, ht.work⟩, hle, rfl, rfl, Nat.le_refl _⟩, rfl, hd⟩
 | @step S U x tms' hm hx _ ih =>
  intro id F R hle hup hL
  obtain ⟨R1, hg⟩ := hL.due_go hm
  have hnow : ({ S with now := x.2, tms := tms' }.due x.1).now = x.2 := by
   obtain ⟨hok1, hno, R1, hR1, htm⟩ := hL.ok.pop hm
   exact (hok1.due_less hR1 htm).now
  obtain ⟨R2, hg2, h1, h2⟩ := ih (by rw [hnow]; exact hx) hup hg.lone
  exact ⟨R2, hg.trans hg2, h1, h2⟩
end FK

namespace FK
theorem Ticks.bound {up : Nat} {S U : En} (h : Ticks up S U) (hok : Ok S) : U.sets ≤ S.sets + S.mass ∧ U.ends ≤ S.ends + S.mass ∧ U.CC = S.CC ∧ U.CD = S.CD := by
 induction h with
 | done _ => exact ⟨Nat.le_add_right _ _, Nat.le_add_right _ _, rfl, rfl⟩
 | @step S U x tms' hm hx _ ih =>
  obtain ⟨hok1, hno, R1, hR1, htm⟩ := hok.pop hm
  have hl := hok1.due_less hR1 htm
  obtain ⟨a1, a2, a3, a4⟩ := ih (hok1.due hR1 htm hno)
  have h1 : ({ S with now := x.2, tms := tms' }.due x.1).mass < S.mass := hl.mass
  have h2 : ({ S with now := x.2, tms := tms' }.due x.1).sets ≤ S.sets + 1 := hl.sets
  have h3 : ({ S with now := x.2, tms := tms' }.due x.1).ends ≤ S.ends + 1 := hl.ends
  exact ⟨by omega, by omega, a3.trans hl.CC, a4.trans hl.CD⟩
structure Seen (id : Nat) (F : Flow) (S : En) (R : Rn) (rd : Nat → Nat) (ts : List Hd) : Prop where
 lone : Lone id F S R
 rdy : BQ id S R rd
 tsk : Tsk S R ts
structure Few (n : Nat) (S : En) : Prop where
 sets : S.sets ≤ 100 + 200 * n
 ends : S.ends ≤ 100 + 200 * n
 tok : S.CC ≤ 100 + n
 run : S.CD ≤ 100
 now : S.now ≤ 100 + 100 * n
section
variable {id : Nat} {F : Flow} {S : En} {R : Rn} {rd : Nat → Nat} {ts : List Hd}
theorem Lone.head (h : Lone id F S R) {p : Pl} {q : List Pl} (hq : S.CH = p :: q) : ∃ (k : Nat) (s : Sp) (n : Node), p = ⟨id, (k : Int), 0⟩ ∧ R.CF[k]? = some s ∧ s.state = 2 ∧ F.CG[k]? = some n ∧ s.CE < n.CJ ∧ R.fl.CG[k]? = some n := by
 obtain ⟨a, k, s, rfl, hs, h2⟩ := (h.ok.CH p).1 (by rw [hq]; exact List.mem_cons_self)
 obtain ⟨rfl, hs⟩ := h.live hs (by omega)
 obtain ⟨n, hn, hp⟩ := h.ok.node h.get hs
 exact ⟨k, s, n, rfl, hs, h2, by rw [← h.fl]; exact hn, hp.low (by omega), hn⟩
theorem Seen.poll (h : Seen id F S R rd ts) {k : Nat} {q : List Pl} {s : Sp} {n : Node} (hq : S.CH = ⟨id, (k : Int), 0⟩ :: q) (hs : R.CF[k]? = some s) (h2 : s.state = 2) (hn : R.fl.CG[k]? = some n) :
 Seen id F (S.hand ⟨id, (k : Int), 0⟩ q R s n) (R.setS k ⟨3, s.CE + 1, S.CC + 1⟩) rd (ts ++ [⟨k, s.CE + 1, S.CC + 1⟩]) ∧ Wt R (R.setS k ⟨3, s.CE + 1, S.CC + 1⟩) ∧ rd k ≤ S.now ∧ (∀ a ∈ ts, a.tok ≠ S.CC + 1) ∧ (S.hand ⟨id, (k : Int), 0⟩ q R s n).CC = S.CC + 1 := by
 have hL := h.lone
 have hok := hL.ok.hand hq hL.get hs hn
 have hm := hL.ok.hand_mv hq hL.get hs hn hL.hon
 have hrun := hL.ok.running hL.get hs (by omega)
 have hnew : ∀ x ∈ je S id k n, S.now ≤ x.2 := fun x hx => by
  unfold je at hx
  rcases List.mem_cons.1 hx with rfl | hx
  · exact iR hL.ok.now _
  · split at hx
    · rw [List.mem_singleton] at hx
      subst hx
      exact iR hL.ok.now _
    · cases hx
 have hnk : ∀ x ∈ je S id k n, ∃ w, x.1 = ⟨id, (k : Int), w⟩ := fun x hx => by
  unfold je at hx
  rcases List.mem_cons.1 hx with rfl | hx
  · exact ⟨_, rfl⟩
  · split at hx
    · rw [List.mem_singleton] at hx
      subst hx
      exact ⟨_, rfl⟩
    · cases hx
 have hnot : ¬ over s = true := by rw [over_iff]; omega
 have hk : ∀ u u', R.CF[k]? = some u → (R.setS k ⟨3, s.CE + 1, S.CC + 1⟩).CF[k]? = some u' → u = s ∧ u' = ⟨3, s.CE + 1, S.CC + 1⟩ := fun u u' a a' => by
  rw [hs] at a
  rw [cv hs] at a'
  injection a with a
  injection a' with a'
  exact ⟨a.symm, a'.symm⟩
 have hw : Wt R (R.setS k ⟨3, s.CE + 1, S.CC + 1⟩) := hm.wt hrun fun u u' a a' => by
  obtain ⟨rfl, rfl⟩ := hk u u' a a'
  exact ⟨by show _ ≤ _ + 1; omega, fun o => absurd o hnot⟩
 have hle := (h.rdy k s hs).1 (.inr (.inl h2))
 have hfresh : ∀ a ∈ ts, a.tok ≠ S.CC + 1 := fun a ha => by have := (h.tsk.low a ha).2; omega
 have htok : (S.hand ⟨id, (k : Int), 0⟩ q R s n).CC = S.CC + 1 := by
  rw [qD]
  unfold En.life
  split <;> rfl
 refine ⟨⟨hm.lone hL hok hnew, hm.rdy h.rdy hnk (fun _ _ => rfl) fun s' hs' => ?_, ?_⟩, hw, hle, hfresh, htok⟩
 · obtain ⟨_, rfl⟩ := hk s s' hs hs'
   refine ⟨fun _ => by rw [hm.now]; exact hle, fun e => by replace e : (3 : Int) = 4 := e; omega⟩
 · refine ⟨?_, fun a ha => ?_, fun a ha => ?_, fun a ha b hb e1 e2 => ?_, fun j u hj h3 => ?_⟩
   · rw [List.map_append, List.nodup_append]
     refine ⟨h.tsk.nd, by simp, fun x hx y hy => ?_⟩
     obtain ⟨a, ha, rfl⟩ := List.mem_map.1 hx
     simp at hy
     subst hy
     exact hfresh a ha
   · rw [htok]
     rcases List.mem_append.1 ha with ha | ha
     · have := h.tsk.low a ha
       omega
     · rw [List.mem_singleton] at ha
       subst ha
       simp
   · rcases List.mem_append.1 ha with ha | ha
     · obtain ⟨b1, u, hu, b2⟩ := h.tsk.at_ a ha
       refine ⟨b1, ?_⟩
       by_cases e : a.node = k
       · rw [e] at hu ⊢
         rw [hs] at hu
         injection hu with hu
         subst hu
         exact ⟨_, cv hs, by show _ ≤ s.CE + 1; omega⟩
       · exact ⟨u, by rw [gG e]; exact hu, b2⟩
     · rw [List.mem_singleton] at ha
       subst ha
       obtain ⟨_, _, hp⟩ := hL.ok.node hL.get hs
       have := hp.tr0
       exact ⟨by show 1 ≤ s.CE + 1; omega, _, cv hs, Int.le_refl _⟩
   · have key : ∀ a ∈ ts, a.node = k → a.tri = s.CE + 1 → False := fun a ha e1 e2 => by
      obtain ⟨_, u, hu, b2⟩ := h.tsk.at_ a ha
      rw [e1, hs] at hu
      injection hu with hu
      subst hu
      omega
     rcases List.mem_append.1 ha with ha | ha
     · rcases List.mem_append.1 hb with hb | hb
       · exact h.tsk.inj a ha b hb e1 e2
       · rw [List.mem_singleton] at hb
         subst hb
         exact (key a ha e1 e2).elim
     · rw [List.mem_singleton] at ha
       subst ha
       rcases List.mem_append.1 hb with hb | hb
       · exact (key b hb e1.symm e2.symm).elim
       · rw [List.mem_singleton] at hb
         exact hb.symm
   · rcases fm hj with ⟨rfl, rfl⟩ | ⟨_, hj⟩
     · exact List.mem_append_right _ (List.mem_singleton.2 rfl)
     · exact List.mem_append_left _ (h.tsk.work j u hj h3)
theorem Seen.complete (h : Seen id F S R rd ts) {t k : Nat} {s : Sp} (ht : (S.CI.find? (·.1 == t)).map (·.2) = some ⟨id, (k : Int), 0⟩) (hs : R.CF[k]? = some s) (h3 : s.state = 3) : ∃ R', Seen id F (S.complete t) R' rd ts ∧ Wt R R' := by
 have hL := h.lone
 have hok := hL.ok.complete t
 obtain ⟨R', hm, s', hs', h5, htr⟩ := hL.ok.complete_mv ht hL.get hs h3 hL.hon
 have hrun := hL.ok.running hL.get hs (by omega)
 have hnot : ¬ over s = true := by rw [over_iff]; omega
 have hk : ∀ u u', R.CF[k]? = some u → R'.CF[k]? = some u' → u = s ∧ u' = s' := fun u u' a a' => by
  rw [hs] at a
  rw [hs'] at a'
  injection a with a
  injection a' with a'
  exact ⟨a.symm, a'.symm⟩
 refine ⟨R', ⟨hm.lone hL hok (fun x hx => by cases hx), hm.rdy h.rdy (fun x hx => by cases hx) (fun _ _ => rfl) fun u' hu' => ?_, hm.tsk hrun h.tsk fun u u' a a' => ?_⟩, hm.wt hrun fun u u' a a' => ?_⟩
 · obtain ⟨_, rfl⟩ := hk s u' hs hu'
   exact ⟨fun e => by omega, fun e => by omega⟩
 · obtain ⟨rfl, rfl⟩ := hk u u' a a'
   exact ⟨Int.le_of_eq htr.symm, fun o => absurd o hnot, fun e => by omega⟩
 · obtain ⟨rfl, rfl⟩ := hk u u' a a'
   exact ⟨Int.le_of_eq htr.symm, fun o => absurd o hnot⟩
theorem Seen.fail (h : Seen id F S R rd ts) {t k : Nat} {s : Sp} (ht : (S.CI.find? (·.1 == t)).map (·.2) = some ⟨id, (k : Int), 0⟩) (hs : R.CF[k]? = some s) (h3 : s.state = 3) {n : Node} (hn : F.CG[k]? = some n) (hnow : S.now + (dk n.base n.cap n.CK s.CE 0).toNat ≤ 4611686018427387904) {rd' : Nat → Nat} (hne : ∀ j, j ≠ k → rd' j = rd j) (hrk : rd' k = S.now + (dk n.base n.cap n.CK s.CE 0).toNat) : ∃ R', Seen id F (S.fail t) R' rd' ts ∧ Wt R R' := by
 have hL := h.lone
 have hrun := hL.ok.running hL.get hs (by omega)
 have hnot : ¬ over s = true := by rw [over_iff]; omega
 rw [li ht]
 obtain ⟨R', s', n', hn', hs', htr, hst, new, hm, hnew, hnk, hok, h4, h6⟩ := hL.failed hs h3
 rw [hn] at hn'
 injection hn' with hn'
 subst hn'
 have hk : ∀ u u', R.CF[k]? = some u → R'.CF[k]? = some u' → u = s ∧ u' = s' := fun u u' a a' => by
  rw [hs] at a
  rw [hs'] at a'
  injection a with a
  injection a' with a'
  exact ⟨a.symm, a'.symm⟩
 refine ⟨R', ⟨hm.lone hL hok hnew, hm.rdy h.rdy hnk hne fun u' hu' => ?_, hm.tsk hrun h.tsk fun u u' a a' => ?_⟩, hm.wt hrun fun u u' a a' => ?_⟩
 · obtain ⟨_, rfl⟩ := hk s u' hs hu'
   refine ⟨fun e => by omega, fun e4 a ha => ?_⟩
   obtain ⟨g1, -, g3⟩ := h4 e4
   have hin := hm.newin g1 (⟨id, (k : Int), 1⟩, S.later (dk n.base n.cap n.CK s.CE 0).toNat) (by rw [g3]; exact List.mem_singleton.2 rfl)
   have := ea hok.knd ha hin rfl
   injection this with _ e
   rw [e, hrk]
   unfold En.later
   omega
 · obtain ⟨rfl, rfl⟩ := hk u u' a a'
   exact ⟨Int.le_of_eq htr.symm, fun o => absurd o hnot, fun e => by omega⟩
 · obtain ⟨rfl, rfl⟩ := hk u u' a a'
   exact ⟨Int.le_of_eq htr.symm, fun o => absurd o hnot⟩
theorem Seen.beat (h : Seen id F S R rd ts) {k : Nat} {wh : Int} {s : Sp} (hs : R.CF[k]? = some s) (h3 : s.state = 3) {n : Node} : Seen id F (S.life ⟨id, (k : Int), wh⟩ n) R rd ts := by
 have hL := h.lone
 have hrun := hL.ok.running hL.get hs (by omega)
 have hm := oK (wh := wh) n hL.get hs hL.hon
 have hok := hL.ok.life (wh := wh) n hL.get hs h3
 have hnot : ¬ over s = true := by rw [over_iff]; omega
 have hnew : ∀ x ∈ (if 0 < n.beat then [((⟨id, (k : Int), 2⟩ : Pl), S.later n.beat.toNat)] else []), S.now ≤ x.2 ∧ ∃ w, x.1 = ⟨id, (k : Int), w⟩ := fun x hx => by
  split at hx
  · rw [List.mem_singleton] at hx
    subst hx
    exact ⟨iR hL.ok.now _, _, rfl⟩
  · cases hx
 refine ⟨hm.lone hL hok fun x hx => (hnew x hx).1, hm.rdy h.rdy (fun x hx => (hnew x hx).2) (fun _ _ => rfl) fun s' hs' => ?_, hm.tsk hrun h.tsk fun u u' a a' => ?_⟩
 · rw [hs] at hs'
   injection hs' with hs'
   subst hs'
   have := h.rdy k s hs
   exact ⟨fun e => by rw [hm.now]; exact this.1 e, fun e => by omega⟩
 · rw [a] at a'
   injection a' with a'
   subst a'
   exact ⟨Int.le_refl _, fun _ => rfl, fun _ => rfl⟩
theorem Seen.tick (h : Seen id F S R rd ts) {n : Nat} {U : En} (ht : Ticks (S.later n) S U) : ∃ R', Seen id F U R' rd ts ∧ Wt R R' ∧ U.now = S.later n ∧ ∀ x ∈ U.tms, S.later n < x.2 := by
 obtain ⟨R', hg, h1, h2⟩ := ht.go (iR h.lone.ok.now n) (jP S n) h.lone
 exact ⟨R', ⟨hg.lone, hg.rdy rd h.rdy, hg.tsk ts h.tsk⟩, hg.wt, h1, h2⟩
end
theorem Seen.begin {S : En} (hok : Ok S) (h5 : S.runs.length ≤ 5) {F : Flow} (hF : Fit F) (hseed : S.seed = 0) (hend : ∀ a A, S.getR a = some A → A.state ≠ 1) : ∃ R, Seen (S.CD + 1) F (S.submit F) R (fun _ => 0) [] ∧ R.state = 1 ∧ (∀ (k : Nat) (s : Sp), R.CF[k]? = some s → s.CE = 0 ∧ s.token = 0 ∧ (s.state = 1 ∨ s.state = 2)) ∧ (S.submit F).now = S.now ∧ (S.submit F).tms = [(⟨S.CD + 1, -1, 0⟩, S.later F.deadline.toNat)] ∧ (S.submit F).sets = S.sets + 1 ∧ (S.submit F).ends = S.ends ∧ (S.submit F).CC = S.CC ∧ (S.submit F).CD = S.CD + 1 := by
 have hokU := hok.submit h5 hF
 have htm : S.tms = [] := by
  cases h : S.tms with
  | nil => rfl
  | cons x l =>
   obtain ⟨_, A, hA, hT⟩ := hok.tms x (by rw [h]; exact List.mem_cons_self)
   exact absurd hT.1 (hend _ A hA)
 obtain ⟨T, hT⟩ : ∃ T, T = (S.begin F).setT ⟨S.CD + 1, -1, 0⟩ (S.later F.deadline.toNat) := ⟨_, rfl⟩
 have hget : ∀ a, T.getR a = if a = S.CD + 1 then some (Rn.begun F) else S.getR a := fun a => by
  rw [hT]
  exact me hok F a
 have hg1 := hget (S.CD + 1)
 rw [if_pos rfl] at hg1
 have hl : (Rn.begun F).CF.length = (Rn.begun F).fl.CG.length := by simp [Rn.begun]
 obtain ⟨w1, w2, w3, -⟩ := vn hg1 hl
 have hsub : S.submit F = T.wake (S.CD + 1) := by rw [hT]; rfl
 rw [hsub] at hokU ⊢
 have hsts : ∀ (k : Nat) (s : Sp), (Rn.begun F).CF[k]? = some s → s = s1 := fun k s hs => nZ hs
 have hst : ∀ (k : Nat) (s : Sp), (du (Rn.begun F) (Rn.begun F).CF.length).CF[k]? = some s → s = s1 ∨ s = { s1 with state := 2 } := fun k s hs => by
  have hlt : k < (Rn.begun F).CF.length := by have := (List.getElem?_eq_some_iff.1 hs).1; rwa [dJ] at this
  have h0 : (Rn.begun F).CF[k]? = some ((Rn.begun F).CF[k]) := List.getElem?_eq_getElem hlt
  have h1 := d9 (n := (Rn.begun F).CF.length) h0
  rw [hs] at h1
  injection h1 with h1
  rw [hsts k _ h0] at h1
  split at h1
  · exact .inr h1
  · exact .inl h1
 have htms : (T.wake (S.CD + 1)).tms = [(⟨S.CD + 1, -1, 0⟩, S.later F.deadline.toNat)] := by
  rw [w3.tms, hT]
  show (S.tms.filter _) ++ _ = _
  rw [htm]
  rfl
 have hnow : (T.wake (S.CD + 1)).now = S.now := by rw [w2.now, hT]; rfl
 have h0 : Hon0 (du (Rn.begun F) (Rn.begun F).CF.length) := by
  refine Hon0.wake hl (fun k s hs hr => ?_) fun k s hs _ u _ => ?_
  · rw [hsts k s hs] at hr
    have : (2 : Int) ≤ 1 ∧ (1 : Int) ≤ 6 := hr
    omega
  · have : ∀ x, x ≠ 1 → bS (Rn.begun F).CF u x = false := fun x hx => by
     cases h : bS (Rn.begun F).CF u x with
     | false => rfl
     | true =>
      obtain ⟨s, hs, e⟩ := isAt_iff.1 h
      rw [hsts u s hs] at e
      exact absurd e.symm hx
    exact ⟨this 6 (by decide), this 7 (by decide)⟩
 have hrun : (du (Rn.begun F) (Rn.begun F).CF.length).state = 1 := rfl
 have hlen : 0 < (du (Rn.begun F) (Rn.begun F).CF.length).CF.length := by
  rw [dJ, hl]
  exact hF.head.2.1
 refine ⟨du (Rn.begun F) (Rn.begun F).CF.length, ⟨⟨hokU, w1, rfl, ?_, fun a A ha hA => ?_, ⟨h0, fun _ => ?_, fun e => by rw [hrun] at e; omega, fun e => absurd hrun e⟩, fun x hx => ?_⟩, fun k s hs => ?_, ?_⟩, hrun, fun k s hs => ?_, hnow, htms, ?_, ?_, ?_, ?_⟩
 · rw [w2.seed, hT]
   exact hseed
 · rw [w2.others a ha, hget, if_neg ha] at hA
   exact hend a A hA
 · have h1 : (du (Rn.begun F) (Rn.begun F).CF.length).CF[0]? = some _ := List.getElem?_eq_getElem hlen
   refine ⟨0, _, h1, ?_⟩
   rw [ls]
   rcases hst 0 _ h1 with e | e <;> rw [e] <;> decide
 · rw [htms, List.mem_singleton] at hx
   subst hx
   rw [hnow]
   exact iR hok.now _
 · exact ⟨fun _ => Nat.zero_le _, fun _ _ _ => Nat.zero_le _⟩
 · refine ⟨List.nodup_nil, fun a ha => (by cases ha), fun a ha => (by cases ha), fun a ha => (by cases ha), fun k s hs h3 => ?_⟩
   rcases hst k s hs with e | e <;> rw [e] at h3
   · replace h3 : (1 : Int) = 3 := h3
     omega
   · replace h3 : (2 : Int) = 3 := h3
     omega
 · rcases hst k s hs with e | e <;> rw [e]
   · exact ⟨rfl, rfl, .inl rfl⟩
   · exact ⟨rfl, rfl, .inr rfl⟩
 · rw [w3.sets, hT]; rfl
 · rw [w3.ends, hT]; rfl
 · rw [w2.CC, hT]; rfl
 · rw [w2.CD, hT]; rfl
end FK

namespace FK
def cst (n : Node) (g : Int) : Int := n.close + n.cap + n.CK + g
structure Cred (id : Nat) (g : Int) (τ : Nat) (S : En) (R : Rn) (d : Int) (w : Nat → Int) : Prop where
 pos : ∀ k, 0 ≤ w k
 one : ∀ (k : Nat) (s : Sp) (n : Node), R.CF[k]? = some s → R.fl.CG[k]? = some n → s.state = 1 → n.CJ * cst n g ≤ w k
 two : ∀ (k : Nat) (s : Sp) (n : Node), R.CF[k]? = some s → R.fl.CG[k]? = some n → s.state = 2 → (n.CJ - s.CE) * cst n g + d ≤ w k + g
 three : ∀ (k : Nat) (s : Sp) (n : Node), R.CF[k]? = some s → R.fl.CG[k]? = some n → s.state = 3 → ∃ a : Nat, ((⟨id, (k : Int), 1⟩ : Pl), a) ∈ S.tms ∧ (n.CJ - s.CE) * cst n g + n.cap + n.CK + ((a : Int) - τ) ≤ w k
 four : ∀ (k : Nat) (s : Sp) (n : Node), R.CF[k]? = some s → R.fl.CG[k]? = some n → s.state = 4 → ∃ a : Nat, ((⟨id, (k : Int), 1⟩ : Pl), a) ∈ S.tms ∧ (n.CJ - s.CE) * cst n g + ((a : Int) - τ) ≤ w k
def wsum (w : Nat → Int) : Nat → Int
 | 0 => 0
 | n + 1 => wsum w n + w n
section
variable {id k : Nat} {g : Int} {τ : Nat} {F : Flow} {S U : En} {R R' : Rn} {new : List KD} {d : Int} {w : Nat → Int}
end
theorem zu (S : En) (n : Nat) : S.later n ≤ S.now + n := by unfold En.later; omega
theorem od (n : Node) (h : cM n) (k : Int) : 1 ≤ dk n.base n.cap n.CK k 0 ∧ dk n.base n.cap n.CK k 0 ≤ n.cap := by
 obtain ⟨_, _, _, _, ⟨h1, _⟩, ⟨h2, _⟩, ⟨h3, _⟩⟩ := h
 refine ⟨oQ _ _ _ _ h1 h2, ?_⟩
 unfold dk
 have h0 : (0 : Int) % (n.CK + 1) = 0 := Int.zero_emod _
 rw [h0]
 split
 · omega
 · split <;> omega
section
variable {id : Nat} {g : Int} {F : Flow} {S U : En} {R : Rn} {w : Nat → Int}
end
end FK

namespace FK
def gapOf (t g : Nat) : Int := if t % g = 0 then 0 else (g : Int) - (t % g : Nat)
structure Drv (id : Nat) (F : Flow) (polls : Bool) (g T0 D : Nat) (sum : Int) (S : En) (R : Rn) (t : Nat) : Prop where
 lone : Lone id F S R
 now : S.now = T0 + t
 lt : ∀ x ∈ S.tms, S.now < x.2
 dead : R.state = 1 → ((⟨id, -1, 0⟩ : Pl), D) ∈ S.tms
 cred : polls = true → R.state = 1 → ∃ w, Cred id g S.now S R (gapOf t g) w ∧ wsum w F.CG.length + t ≤ sum
section
variable {id : Nat} {F : Flow} {polls : Bool} {g T0 D : Nat} {sum : Int} {S U : En} {R : Rn} {t : Nat}
end
end FK

namespace FK
structure FI (r B : Nat) (S : En) : Prop where
 ok : Ok S
 runs : ∀ id R, S.getR id = some R → id = 1 ∨ ∃ n, FRun n R
 q1 : ∀ p ∈ S.CH, p.run ≠ 1
 CD : S.CD = 1 + r
 len : S.runs.length = 1 + r
 sets : S.sets ≤ B
 tok : S.CC ≤ B
 ends : S.ends ≤ B
theorem FI.start : FI 0 10 o8 := by
 refine ⟨pf, fun id R h => ?_, fun p hp => (by cases hp), rfl, rfl, by decide, by decide, by decide⟩
 have := i1 h
 have h1 : (id, R) ∈ [(1, p9 2 ⟨5, 2, 0⟩ ⟨5, 1, 0⟩ 1)] := this
 rw [List.mem_singleton] at h1
 injection h1 with h1
 exact .inl h1
theorem FI.mono {r B B' : Nat} {S : En} (h : FI r B S) (hB : B ≤ B') : FI r B' S := ⟨h.ok, h.runs, h.q1, h.CD, h.len, Nat.le_trans h.sets hB, Nat.le_trans h.tok hB, Nat.le_trans h.ends hB⟩
end FK
