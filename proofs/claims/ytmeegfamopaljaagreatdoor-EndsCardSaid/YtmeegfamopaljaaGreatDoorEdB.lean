/- Plain laws on a wheel: what is in which slot, through each of its calls. -/
import Derived.Test.YtmeegfamopaljaaGreatDoorEdA
namespace FK
def dy {α : Type} (f : Nat → α) (i : Nat) (v : α) : Nat → α := fun j => if j = i then v else f j
theorem ch {α : Type} (f : Nat → α) (i : Nat) (v : α) : dy f i v i = v := by simp [dy]
theorem bK {α : Type} (f : Nat → α) {i j : Nat} (v : α) (h : j ≠ i) : dy f i v j = f j := by simp [dy, h]
structure Tmr where
 key : Pl
 due : Nat
 seq : Nat
 blk : Nat
 lvl : Nat
 slot : Nat
def Tmr.pos (t : Tmr) : Nat := 64 * t.lvl + t.slot
def Tmr.place (now : Nat) (t : Tmr) : Tmr := { t with lvl := gi now t.due, slot := td (gi now t.due) t.due }
structure WS where
 now : Nat
 seq : Nat
 us : Nat → Nat
 bs : Nat → List Nat
 tms : List Tmr
def clr (a s : Nat) : Nat := a &&& (18446744073709551616 - (2 ^ s + 1))
def WS.put (S : WS) (a : List Tmr) (t : Tmr) (b : List Tmr) : WS :=
 { S with us := dy S.us (t.place S.now).lvl (S.us (t.place S.now).lvl ||| 2 ^ (t.place S.now).slot), bs := dy S.bs (t.place S.now).pos (S.bs (t.place S.now).pos ++ [t.blk]), tms := a ++ t.place S.now :: b }
def WS.drop (S : WS) (a : List Tmr) (t : Tmr) (b : List Tmr) : WS :=
 { S with us := if (S.bs t.pos).erase t.blk = [] then dy S.us t.lvl (clr (S.us t.lvl) t.slot) else S.us, bs := dy S.bs t.pos ((S.bs t.pos).erase t.blk), tms := a ++ b }
def WS.clear (S : WS) (l s : Nat) : WS := { S with us := dy S.us l (clr (S.us l) s), bs := dy S.bs (64 * l + s) [] }
theorem mZ {a s j : Nat} (hs : s < 64) (ha : a < 18446744073709551616) : (clr a s).testBit j = (a.testBit j && !decide (j = s)) := by
 unfold clr
 have h1 : (2 : Nat) ^ s < 2 ^ 64 := Nat.pow_lt_pow_right (by omega) hs
 rw [show (18446744073709551616 : Nat) = 2 ^ 64 by rfl, Nat.testBit_and, Nat.testBit_two_pow_sub_succ h1, Nat.testBit_two_pow]
 by_cases hj : j < 64
 · simp only [hj, decide_true, Bool.true_and]
   by_cases h : s = j
   · subst h; simp
   · simp [h, Ne.symm h]
 · have : a.testBit j = false := Nat.testBit_lt_two_pow (Nat.lt_of_lt_of_le ha (by rw [show (18446744073709551616 : Nat) = 2 ^ 64 by rfl]; exact Nat.pow_le_pow_right (by omega) (by omega)))
   simp [this]
theorem clr_lt {a s : Nat} (ha : a < 18446744073709551616) : clr a s < 18446744073709551616 := Nat.lt_of_le_of_lt Nat.and_le_left ha
theorem BY {a s j : Nat} : (a ||| 2 ^ s).testBit j = (a.testBit j || decide (j = s)) := by
 rw [Nat.testBit_or, Nat.testBit_two_pow]
 congr 1
 simp [eq_comm]
theorem or_lt {a s : Nat} (hs : s < 64) (ha : a < 18446744073709551616) : a ||| 2 ^ s < 18446744073709551616 := by
 have h1 : (2 : Nat) ^ s < 2 ^ 64 := Nat.pow_lt_pow_right (by omega) hs
 exact Nat.or_lt_two_pow (n := 64) ha h1
def kg (un : List Nat) (i : Nat) (t : Tmr) : Bool := !(un.contains t.blk) && t.pos == i
structure Inv (S : WS) (un : List Nat) : Prop where
 nowle : S.now ≤ 2 ^ 62
 keys : (S.tms.map Tmr.key).Nodup
 blks : (S.tms.map Tmr.blk).Nodup
 seqs : S.tms.Pairwise fun a b => a.seq < b.seq
 seqle : ∀ t ∈ S.tms, t.seq ≤ S.seq
 due : ∀ t ∈ S.tms, S.now ≤ t.due ∧ t.due ≤ 2 ^ 62
 pl : ∀ t ∈ S.tms, t.blk ∉ un → t.lvl = gi S.now t.due ∧ t.slot = td t.lvl t.due
 slot : ∀ i, i < 704 → S.bs i = (S.tms.filter (kg un i)).map Tmr.blk
 used : ∀ l s, l < 11 → s < 64 → (S.us l).testBit s = !(S.bs (64 * l + s)).isEmpty
 uslt : ∀ l, l < 11 → S.us l < 18446744073709551616
theorem Inv.lvl {S : WS} {un : List Nat} (h : Inv S un) {t : Tmr} (ht : t ∈ S.tms) : gi S.now t.due < 11 := by
 have := ui h.nowle (h.due t ht).2
 omega
theorem Inv.lvl' {S : WS} {un : List Nat} (h : Inv S un) {t : Tmr} (ht : t ∈ S.tms) (hu : t.blk ∉ un) : t.lvl < 11 ∧ t.slot < 64 := by
 obtain ⟨h1, h2⟩ := h.pl t ht hu
 exact ⟨h1 ▸ h.lvl ht, h2 ▸ yk _ _⟩
theorem Inv.pos {S : WS} {un : List Nat} (h : Inv S un) {t : Tmr} (ht : t ∈ S.tms) (hu : t.blk ∉ un) : t.pos < 704 := by
 obtain ⟨h1, h2⟩ := h.lvl' ht hu
 unfold Tmr.pos
 omega
theorem nr {S : WS} {un : List Nat} (h : Inv S un) {t : Tmr} (ht : t ∈ S.tms) : (t.place S.now).lvl < 11 ∧ (t.place S.now).slot < 64 ∧ (t.place S.now).pos < 704 := by
 have h1 := h.lvl ht
 have h2 := yk (gi S.now t.due) t.due
 refine ⟨h1, h2, ?_⟩
 show 64 * gi S.now t.due + td (gi S.now t.due) t.due < 704
 omega
theorem fP {α β : Type} {f : α → β} {a b : List α} {t : α} (h : ((a ++ t :: b).map f).Nodup) : (∀ u ∈ a, f u ≠ f t) ∧ (∀ u ∈ b, f u ≠ f t) := by
 rw [List.map_append, List.map_cons, List.nodup_append] at h
 obtain ⟨_, h2, h3⟩ := h
 refine ⟨fun u hu e => h3 (f u) (List.mem_map_of_mem hu) (f t) (by simp) e, fun u hu e => ?_⟩
 have := (List.nodup_cons.1 h2).1
 exact this (e ▸ List.mem_map_of_mem hu)
theorem eg {α β : Type} {f : α → β} : ∀ {l : List α}, (l.map f).Nodup → ∀ {u t : α}, u ∈ l → t ∈ l → f u = f t → u = t
 | [], _, _, _, h, _, _ => by cases h
 | x :: l, hn, u, t, hu, ht, e => by
  rw [List.map_cons, List.nodup_cons] at hn
  rcases List.mem_cons.1 hu with rfl | hu
  · rcases List.mem_cons.1 ht with rfl | ht
    · rfl
    · exact absurd (e ▸ List.mem_map_of_mem ht) hn.1
  · rcases List.mem_cons.1 ht with h0 | ht
    · exact absurd (h0 ▸ e ▸ List.mem_map_of_mem hu) hn.1
    · exact eg hn.2 hu ht e
theorem Inv.put {S : WS} {a b : List Tmr} {t : Tmr} {rest : List Nat} (h : Inv S (t.blk :: rest)) (hS : S.tms = a ++ t :: b) (hr : t.blk ∉ rest) (hlow : ∀ u ∈ S.tms, u.blk ∉ t.blk :: rest → u.pos = (t.place S.now).pos → u.seq < t.seq) : Inv (S.put a t b) rest := by
 have htm : t ∈ S.tms := by rw [hS]; simp
 obtain ⟨k1, k2, k3⟩ := nr h htm
 obtain ⟨ha, hb⟩ := fP (f := Tmr.blk) (t := t) (by rw [← hS]; exact h.blks)
 have hsame : ∀ i u, u.blk ≠ t.blk → kg rest i u = kg (t.blk :: rest) i u := fun i u hu => by
  simp [kg, hu]
 have hfa : ∀ i, a.filter (kg rest i) = a.filter (kg (t.blk :: rest) i) := fun i => List.filter_congr fun u hu => hsame i u (ha u hu)
 have hfb : ∀ i, b.filter (kg rest i) = b.filter (kg (t.blk :: rest) i) := fun i => List.filter_congr fun u hu => hsame i u (hb u hu)
 have ht0 : ∀ i, kg (t.blk :: rest) i t = false := fun i => by simp [kg]
 have ht1 : ∀ i, kg rest i (t.place S.now) = decide ((t.place S.now).pos = i) := fun i => by
  have : (t.place S.now).blk = t.blk := rfl
  simp [kg, this, hr]
  by_cases he : (t.place S.now).pos = i <;> simp [he]
 have hb0 : b.filter (kg (t.blk :: rest) (t.place S.now).pos) = [] := by
  rw [List.filter_eq_nil_iff]
  intro u hu hin
  simp only [kg, Bool.and_eq_true, Bool.not_eq_true', beq_iff_eq] at hin
  have hum : u ∈ S.tms := by rw [hS]; simp [hu]
  have h1 := hlow u hum (by simpa using hin.1) hin.2
  have h2 := h.seqs
  rw [hS, List.pairwise_append] at h2
  have := (List.pairwise_cons.1 h2.2.1).1 u hu
  omega
 have hold : ∀ i, i < 704 → S.bs i = (a.filter (kg (t.blk :: rest) i) ++ b.filter (kg (t.blk :: rest) i)).map Tmr.blk := fun i hi => by
  rw [h.slot i hi, hS, List.filter_append, List.filter_cons, ht0]; rfl
 have hnew : ∀ i, i < 704 → (S.put a t b).bs i = ((a ++ t.place S.now :: b).filter (kg rest i)).map Tmr.blk := fun i hi => by
  rw [List.filter_append, List.filter_cons, ht1, hfa, hfb]
  show dy S.bs _ _ i = _
  by_cases he : (t.place S.now).pos = i
  · subst he
    rw [ch, hold _ hi, hb0]
    simp [Tmr.place]
  · rw [bK _ _ (Ne.symm he), hold i hi]
    simp [he]
 have hmem : ∀ u, u ∈ (S.put a t b).tms → (u ∈ S.tms ∧ u.blk ≠ t.blk) ∨ u = t.place S.now := fun u hu => by
  have hu' : u ∈ a ++ t.place S.now :: b := hu
  rw [List.mem_append, List.mem_cons] at hu'
  rcases hu' with h1 | h1 | h1
  · exact .inl ⟨by rw [hS]; simp [h1], ha u h1⟩
  · exact .inr h1
  · exact .inl ⟨by rw [hS]; simp [h1], hb u h1⟩
 refine ⟨h.nowle, ?_, ?_, ?_, ?_, ?_, ?_, hnew, ?_, ?_⟩
 · have := h.keys
   rw [hS] at this
   simpa [WS.put, Tmr.place] using this
 · have := h.blks
   rw [hS] at this
   simpa [WS.put, Tmr.place] using this
 · have := h.seqs
   rw [hS] at this
   show (a ++ t.place S.now :: b).Pairwise _
   rw [List.pairwise_append, List.pairwise_cons] at this ⊢
   refine ⟨this.1, ⟨this.2.1.1, this.2.1.2⟩, fun x hx y hy => ?_⟩
   rcases List.mem_cons.1 hy with rfl | hy
   · exact this.2.2 x hx t (by simp)
   · exact this.2.2 x hx y (by simp [hy])
 · intro u hu
   rcases hmem u hu with h1 | rfl
   · exact h.seqle u h1.1
   · exact h.seqle t htm
 · intro u hu
   rcases hmem u hu with h1 | rfl
   · exact h.due u h1.1
   · exact h.due t htm
 · intro u hu hun
   rcases hmem u hu with h1 | rfl
   · exact h.pl u h1.1 (by simp [h1.2, hun])
   · exact ⟨rfl, rfl⟩
 · intro l s hl hs
   show (dy S.us _ _ l).testBit s = !(dy S.bs _ _ (64 * l + s)).isEmpty
   have hu := h.used l s hl hs
   by_cases hlv : l = (t.place S.now).lvl
   · subst hlv
     rw [ch, BY]
     by_cases hsl : s = (t.place S.now).slot
     · subst hsl
       rw [show 64 * (t.place S.now).lvl + (t.place S.now).slot = (t.place S.now).pos from rfl, ch]
       simp
     · rw [bK _ _ (by unfold Tmr.pos; omega), hu]
       simp [hsl]
   · rw [bK _ _ hlv, bK _ _ (by unfold Tmr.pos; omega), hu]
 · intro l hl
   show dy S.us _ _ l < _
   by_cases hlv : l = (t.place S.now).lvl
   · subst hlv
     rw [ch]
     exact or_lt k2 (h.uslt _ hl)
   · rw [bK _ _ hlv]
     exact h.uslt l hl
theorem Inv.drop {S : WS} {a b : List Tmr} {t : Tmr} (h : Inv S []) (hS : S.tms = a ++ t :: b) : Inv (S.drop a t b) [] := by
 have htm : t ∈ S.tms := by rw [hS]; simp
 obtain ⟨k1, k2⟩ := h.lvl' htm (by simp)
 have k3 := h.pos htm (by simp)
 obtain ⟨ha, hb⟩ := fP (f := Tmr.blk) (t := t) (by rw [← hS]; exact h.blks)
 have hsub : (a ++ b).Sublist S.tms := by
  rw [hS]
  exact List.Sublist.append (List.Sublist.refl a) (List.sublist_cons_self t b)
 have ht1 : ∀ i, kg [] i t = decide (t.pos = i) := fun i => by
  simp [kg]
  by_cases he : t.pos = i <;> simp [he]
 have hold : ∀ i, i < 704 → S.bs i = ((a ++ t :: b).filter (kg [] i)).map Tmr.blk := fun i hi => by rw [h.slot i hi, hS]
 have hnew : ∀ i, i < 704 → (S.drop a t b).bs i = ((a ++ b).filter (kg [] i)).map Tmr.blk := fun i hi => by
  show dy S.bs _ _ i = _
  by_cases he : t.pos = i
  · subst he
    rw [ch, hold _ hi, List.filter_append, List.filter_append, List.filter_cons, ht1]
    simp only [decide_true, if_true, List.map_append, List.map_cons]
    rw [List.erase_append_right, List.erase_cons_head]
    intro hm
    obtain ⟨u, hu, e⟩ := List.mem_map.1 hm
    exact ha u (List.mem_filter.1 hu).1 e
  · rw [bK _ _ (Ne.symm he), hold i hi, List.filter_append, List.filter_append, List.filter_cons, ht1]
    simp [he]
 refine ⟨h.nowle, h.keys.sublist (hsub.map _), h.blks.sublist (hsub.map _), h.seqs.sublist hsub, fun u hu => h.seqle u (hsub.subset hu), fun u hu => h.due u (hsub.subset hu), fun u hu => h.pl u (hsub.subset hu), hnew, ?_, ?_⟩
 · intro l s hl hs
   show ((if (S.bs t.pos).erase t.blk = [] then dy S.us t.lvl (clr (S.us t.lvl) t.slot) else S.us) l).testBit s = !(dy S.bs _ _ (64 * l + s)).isEmpty
   have hu := h.used l s hl hs
   by_cases hp : 64 * l + s = t.pos
   · have hls : l = t.lvl ∧ s = t.slot := by unfold Tmr.pos at hp; omega
     obtain ⟨rfl, rfl⟩ := hls
     rw [hp, ch]
     split
     · rename_i he
       rw [ch, mZ k2 (h.uslt _ k1), he]
       simp
     · rename_i he
       rw [hu, hp]
       have hne : S.bs t.pos ≠ [] := fun h0 => by rw [h0] at he; simp at he
       rw [List.isEmpty_eq_false_iff.2 he, List.isEmpty_eq_false_iff.2 hne]
   · rw [bK _ _ hp, ← hu]
     split
     · by_cases hlv : l = t.lvl
       · subst hlv
         have : s ≠ t.slot := fun hs' => hp (by unfold Tmr.pos; omega)
         rw [ch, mZ k2 (h.uslt _ k1)]
         simp [this]
       · rw [bK _ _ hlv]
     · rfl
 · intro l hl
   show (if (S.bs t.pos).erase t.blk = [] then dy S.us t.lvl (clr (S.us t.lvl) t.slot) else S.us) l < _
   split
   · by_cases hlv : l = t.lvl
     · subst hlv; rw [ch]; exact clr_lt (h.uslt _ hl)
     · rw [bK _ _ hlv]; exact h.uslt l hl
   · exact h.uslt l hl
structure Fst (S : WS) (l s : Nat) : Prop where
 hl : l < 11
 hs : s < 64
 has : S.bs (64 * l + s) ≠ []
 ahead : ∀ t ∈ S.tms, l < t.lvl ∨ t.lvl = l ∧ s ≤ t.slot
theorem Inv.mem_slot {S : WS} {un : List Nat} (h : Inv S un) {t : Tmr} (ht : t ∈ S.tms) (hu : t.blk ∉ un) : t.blk ∈ S.bs t.pos := by
 rw [h.slot _ (h.pos ht hu)]
 exact List.mem_map.2 ⟨t, List.mem_filter.2 ⟨ht, by simp [kg, hu]⟩, rfl⟩
theorem Inv.of_slot {S : WS} {un : List Nat} (h : Inv S un) {i b : Nat} (hi : i < 704) (hb : b ∈ S.bs i) : ∃ t ∈ S.tms, t.blk = b ∧ t.pos = i ∧ t.blk ∉ un := by
 rw [h.slot i hi] at hb
 obtain ⟨t, ht, e⟩ := List.mem_map.1 hb
 obtain ⟨h1, h2⟩ := List.mem_filter.1 ht
 simp only [kg, Bool.and_eq_true, Bool.not_eq_true', beq_iff_eq] at h2
 exact ⟨t, h1, e, h2.2, by simpa using h2.1⟩
theorem fO {t : Tmr} {l s : Nat} (hs : s < 64) (ht : t.slot < 64) (h : t.pos = 64 * l + s) : t.lvl = l ∧ t.slot = s := by
 unfold Tmr.pos at h
 omega
theorem Inv.fst {S : WS} (h : Inv S []) {l s : Nat} (hl : l < 11) (hs : s < 64) (hb : (S.us l).testBit s = true) (hlow : ∀ j, j < s → (S.us l).testBit j = false) (hno : ∀ k, k < l → S.us k = 0) : Fst S l s := by
 refine ⟨hl, hs, ?_, ?_⟩
 · have := h.used l s hl hs
   rw [hb] at this
   intro he
   rw [he] at this
   simp at this
 · intro t ht
   obtain ⟨k1, k2⟩ := h.lvl' ht (by simp)
   have hin := h.mem_slot ht (by simp)
   have hus := h.used t.lvl t.slot k1 k2
   have hne : (S.bs (64 * t.lvl + t.slot)).isEmpty = false := by
    have : S.bs t.pos ≠ [] := fun he => by rw [he] at hin; simp at hin
    simpa [Tmr.pos] using this
   rw [hne] at hus
   rcases Nat.lt_trichotomy t.lvl l with h1 | h1 | h1
   · rw [hno _ h1] at hus; simp at hus
   · right
     refine ⟨h1, Nat.le_of_not_lt fun h2 => ?_⟩
     rw [h1, hlow _ h2] at hus
     simp at hus
   · exact .inl h1
theorem Inv.none {S : WS} (h : Inv S []) (hno : ∀ k, k < 11 → S.us k = 0) : S.tms = [] := by
 apply List.eq_nil_iff_forall_not_mem.2
 intro t ht
 obtain ⟨k1, k2⟩ := h.lvl' ht (by simp)
 have hin := h.mem_slot ht (by simp)
 have hus := h.used t.lvl t.slot k1 k2
 rw [hno _ k1] at hus
 have : S.bs t.pos ≠ [] := fun he => by rw [he] at hin; simp at hin
 simp [Tmr.pos] at hus this
 exact this hus
theorem Fst.lt {S : WS} (h : Inv S []) {l s : Nat} (f : Fst S l s) {t u : Tmr} (ht : t ∈ S.tms) (hu : u ∈ S.tms) (htp : t.pos = 64 * l + s) (hup : u.pos ≠ 64 * l + s) : t.due < u.due := by
 obtain ⟨k1, k2⟩ := h.lvl' ht (by simp)
 obtain ⟨a1, a2⟩ := fO f.hs k2 htp
 obtain ⟨p1, p2⟩ := h.pl t ht (by simp)
 obtain ⟨q1, q2⟩ := h.pl u hu (by simp)
 rcases f.ahead u hu with h1 | ⟨h1, h2⟩
 · exact wQ (h.due u hu).1 (by omega)
 · have h3 : s < u.slot := by
    rcases Nat.lt_or_ge s u.slot with h3 | h3
    · exact h3
    · exact absurd (by unfold Tmr.pos; omega) hup
   rw [q2, h1] at h3
   rw [p2, a1] at a2
   exact uh (now := S.now) (l := l) (by omega) (by omega) (by omega)
theorem Fst.start {S : WS} (h : Inv S []) {l s : Nat} (f : Fst S l s) {t : Tmr} (ht : t ∈ S.tms) : bp S.now l s ≤ t.due := by
 obtain ⟨b, hb⟩ := List.exists_mem_of_ne_nil _ f.has
 have hi : 64 * l + s < 704 := by have := f.hl; have := f.hs; omega
 obtain ⟨v, hv, _, hvp, _⟩ := h.of_slot hi hb
 have hvd : bp S.now l s ≤ v.due := by
  obtain ⟨k1, k2⟩ := h.lvl' hv (by simp)
  obtain ⟨a1, a2⟩ := fO f.hs k2 hvp
  obtain ⟨p1, p2⟩ := h.pl v hv (by simp)
  have := rq (now := S.now) (due := v.due) (l := l) (by omega)
  rw [p2, a1] at a2
  rw [a2] at this
  exact this
 by_cases htp : t.pos = 64 * l + s
 · obtain ⟨k1, k2⟩ := h.lvl' ht (by simp)
   obtain ⟨a1, a2⟩ := fO f.hs k2 htp
   obtain ⟨p1, p2⟩ := h.pl t ht (by simp)
   have := rq (now := S.now) (due := t.due) (l := l) (by omega)
   rw [p2, a1] at a2
   rw [a2] at this
   exact this
 · exact Nat.le_of_lt (Nat.lt_of_le_of_lt hvd (f.lt h hv ht hvp htp))
theorem Inv.to0 {S : WS} (h : Inv S []) {s : Nat} (f : Fst S 0 s) : Inv { S with now := max (bp S.now 0 s) S.now } [] ∧ (∀ t ∈ S.tms, t.pos = s → t.due = max (bp S.now 0 s) S.now) := by
 have hz : ∀ t ∈ S.tms, t.pos = s → t.due = bp S.now 0 s := fun t ht hp => by
  obtain ⟨k1, k2⟩ := h.lvl' ht (by simp)
  obtain ⟨a1, a2⟩ := fO (l := 0) f.hs k2 (by omega)
  obtain ⟨p1, p2⟩ := h.pl t ht (by simp)
  have := tN (now := S.now) (due := t.due) (by omega)
  rw [p2, a1] at a2
  rw [← a2]
  exact this.symm
 obtain ⟨b, hb⟩ := List.exists_mem_of_ne_nil _ f.has
 obtain ⟨v, hv, _, hvp, _⟩ := h.of_slot (by have := f.hs; omega) hb
 have hve := hz v hv (by omega)
 have hvd := h.due v hv
 have hm : max (bp S.now 0 s) S.now = bp S.now 0 s := by omega
 rw [hm]
 refine ⟨⟨by show bp S.now 0 s ≤ _; omega, h.keys, h.blks, h.seqs, h.seqle, fun t ht => ⟨f.start h ht, (h.due t ht).2⟩, fun t ht hu => ?_, h.slot, h.used, h.uslt⟩, hz⟩
 obtain ⟨p1, p2⟩ := h.pl t ht hu
 refine ⟨?_, p2⟩
 show t.lvl = gi (bp S.now 0 s) t.due
 by_cases htp : t.pos = s
 · have e1 := hz t ht htp
   obtain ⟨k1, k2⟩ := h.lvl' ht (by simp)
   obtain ⟨a1, a2⟩ := fO (l := 0) f.hs k2 (by omega)
   rw [← e1]
   simp [gi, a1]
 · rw [mh f.hs ?_, p1]
   rcases f.ahead t ht with h1 | ⟨h1, h2⟩
   · left; omega
   · right
     refine ⟨by omega, fun e => htp ?_⟩
     have e0 : t.slot = s := by rw [p2, h1]; exact e
     unfold Tmr.pos
     omega
theorem Inv.toL {S : WS} (h : Inv S []) {l s : Nat} (hl : 1 ≤ l) (f : Fst S l s) : max (bp S.now l s) S.now = bp S.now l s ∧ Inv ({ S with now := bp S.now l s }.clear l s) (S.bs (64 * l + s)) := by
 have hi : 64 * l + s < 704 := by have := f.hl; have := f.hs; omega
 obtain ⟨b, hb⟩ := List.exists_mem_of_ne_nil _ f.has
 obtain ⟨v, hv, _, hvp, _⟩ := h.of_slot hi hb
 have hst : S.now < bp S.now l s := by
  obtain ⟨k1, k2⟩ := h.lvl' hv (by simp)
  obtain ⟨a1, a2⟩ := fO f.hs k2 hvp
  obtain ⟨p1, p2⟩ := h.pl v hv (by simp)
  have := qI (now := S.now) (due := v.due) hl (by omega) (h.due v hv).1
  rw [p2, a1] at a2
  rw [a2] at this
  exact this
 have hin : ∀ t ∈ S.tms, t.blk ∉ S.bs (64 * l + s) → t.pos ≠ 64 * l + s := fun t ht hn hp => hn (hp ▸ h.mem_slot ht (by simp))
 have hout : ∀ t ∈ S.tms, t.pos ≠ 64 * l + s → t.blk ∉ S.bs (64 * l + s) := fun t ht hp hb => by
  obtain ⟨u, hu, e, hup, _⟩ := h.of_slot hi hb
  have : u = t := eg h.blks hu ht e
  exact hp (this ▸ hup)
 refine ⟨by omega, ?_⟩
 refine ⟨?_, h.keys, h.blks, h.seqs, h.seqle, fun t ht => ⟨f.start h ht, (h.due t ht).2⟩, fun t ht hu => ?_, ?_, ?_, ?_⟩
 · show bp S.now l s ≤ _
   exact Nat.le_trans (f.start h hv) (h.due v hv).2
 · obtain ⟨p1, p2⟩ := h.pl t ht (by simp)
   refine ⟨?_, p2⟩
   show t.lvl = gi (bp S.now l s) t.due
   have htp := hin t ht hu
   rw [mh f.hs ?_, p1]
   rcases f.ahead t ht with h1 | ⟨h1, h2⟩
   · left; omega
   · right
     refine ⟨by omega, fun e => htp ?_⟩
     have e0 : t.slot = s := by rw [p2, h1]; exact e
     unfold Tmr.pos
     omega
 · intro i hi'
   show dy S.bs _ _ i = ((S.tms.filter (kg (S.bs (64 * l + s)) i)).map Tmr.blk)
   by_cases he : i = 64 * l + s
   · subst he
     rw [ch]
     symm
     rw [List.map_eq_nil_iff, List.filter_eq_nil_iff]
     intro t ht hs'
     simp only [kg, Bool.and_eq_true, Bool.not_eq_true', beq_iff_eq] at hs'
     exact hin t ht (by simpa using hs'.1) hs'.2
   · rw [bK _ _ he, h.slot i hi']
     congr 1
     refine List.filter_congr fun t ht => ?_
     simp only [kg]
     by_cases hp : t.pos = i
     · have h1 := hout t ht (by omega)
       simp [h1]
     · simp [hp]
 · intro k j hk hj
   show (dy S.us _ _ k).testBit j = !(dy S.bs _ _ (64 * k + j)).isEmpty
   have hu := h.used k j hk hj
   by_cases hp : 64 * k + j = 64 * l + s
   · have : k = l ∧ j = s := by have := f.hs; omega
     obtain ⟨rfl, rfl⟩ := this
     rw [ch, ch, mZ f.hs (h.uslt _ f.hl)]
     simp
   · rw [bK _ _ hp, ← hu]
     by_cases hkl : k = l
     · subst hkl
       have : j ≠ s := fun e => hp (by omega)
       rw [ch, mZ f.hs (h.uslt _ f.hl)]
       simp [this]
     · rw [bK _ _ hkl]
 · intro k hk
   show dy S.us _ _ k < _
   by_cases hkl : k = l
   · subst hkl
     rw [ch]; exact clr_lt (h.uslt _ hk)
   · rw [bK _ _ hkl]; exact h.uslt k hk
theorem Inv.stay {S : WS} (h : Inv S []) {to : Nat} (h1 : S.now ≤ to) (h2 : to ≤ 2 ^ 62) (hf : S.tms = [] ∨ ∃ l s, Fst S l s ∧ to < bp S.now l s) : Inv { S with now := to } [] ∧ ∀ t ∈ S.tms, to < t.due := by
 rcases hf with hf | ⟨l, s, f, hlt⟩
 · refine ⟨⟨h2, h.keys, h.blks, h.seqs, h.seqle, fun t ht => ?_, fun t ht => ?_, h.slot, h.used, h.uslt⟩, fun t ht => ?_⟩
   · have : t ∈ S.tms := ht
     rw [hf] at this; cases this
   · have : t ∈ S.tms := ht
     rw [hf] at this; cases this
   · rw [hf] at ht; cases ht
 · have hall : ∀ t ∈ S.tms, to < t.due := fun t ht => Nat.lt_of_lt_of_le hlt (f.start h ht)
   refine ⟨⟨h2, h.keys, h.blks, h.seqs, h.seqle, fun t ht => ⟨Nat.le_of_lt (hall t ht), (h.due t ht).2⟩, fun t ht hu => ?_, h.slot, h.used, h.uslt⟩, hall⟩
   obtain ⟨p1, p2⟩ := h.pl t ht hu
   refine ⟨?_, p2⟩
   show t.lvl = gi to t.due
   rw [yR f.hs h1 hlt ?_, p1]
   rcases f.ahead t ht with h3 | ⟨h3, h4⟩
   · left; omega
   · right
     refine ⟨by omega, ?_⟩
     rw [p2, h3] at h4
     exact h4
def kd (t : Tmr) : Pl × Nat := (t.key, t.due)
structure Casc (S : WS) (l : Nat) (rest : List Nat) : Prop where
 inv : Inv S rest
 nd : rest.Nodup
 mem : ∀ x ∈ rest, ∃ t ∈ S.tms, t.blk = x
 ord : rest.Pairwise fun x y => ∀ t ∈ S.tms, ∀ u ∈ S.tms, t.blk = x → u.blk = y → t.seq < u.seq
 low : ∀ t ∈ S.tms, t.blk ∈ rest → gi S.now t.due < l
 placed : ∀ u ∈ S.tms, u.blk ∉ rest → u.lvl < l → ∀ t ∈ S.tms, t.blk ∈ rest → u.seq < t.seq
 some : ∃ t ∈ S.tms, t.blk ∈ rest ∨ t.lvl < l
theorem Casc.begin {S : WS} (h : Inv S []) {l s : Nat} (hl : 1 ≤ l) (f : Fst S l s) : Casc ({ S with now := bp S.now l s }.clear l s) l (S.bs (64 * l + s)) := by
 have hi : 64 * l + s < 704 := by have := f.hl; have := f.hs; omega
 have hinv := (h.toL hl f).2
 have hbs := h.slot _ hi
 have hlev : ∀ t ∈ S.tms, t.pos = 64 * l + s → gi (bp S.now l s) t.due < l := fun t ht hp => by
  obtain ⟨k1, k2⟩ := h.lvl' ht (by simp)
  obtain ⟨a1, a2⟩ := fO f.hs k2 hp
  obtain ⟨p1, p2⟩ := h.pl t ht (by simp)
  have := sT (now := S.now) (due := t.due) hl (by omega)
  rw [p2, a1] at a2
  rw [a2] at this
  exact this
 have hpos : ∀ t ∈ S.tms, t.blk ∈ S.bs (64 * l + s) → t.pos = 64 * l + s := fun t ht hb => by
  obtain ⟨u, hu, e, hup, _⟩ := h.of_slot hi hb
  exact eg h.blks hu ht e ▸ hup
 obtain ⟨b, hb⟩ := List.exists_mem_of_ne_nil _ f.has
 obtain ⟨v, hv, hvb, hvp, _⟩ := h.of_slot hi hb
 refine ⟨hinv, ?_, ?_, ?_, fun t ht hb => hlev t ht (hpos t ht hb), ?_, ⟨v, hv, .inl (hvb ▸ hb)⟩⟩
 · rw [hbs]
   exact h.blks.sublist (List.filter_sublist.map _)
 · intro x hx
   obtain ⟨t, ht, e, _⟩ := h.of_slot hi hx
   exact ⟨t, ht, e⟩
 · rw [hbs, List.pairwise_map]
   refine (h.seqs.sublist List.filter_sublist).imp_of_mem ?_
   intro x y hx hy hxy t ht u hu e1 e2
   have h1 := eg h.blks ht (List.mem_filter.1 hx).1 e1
   have h2 := eg h.blks hu (List.mem_filter.1 hy).1 e2
   rw [h1, h2]
   exact hxy
 · intro u hu _ hul t ht _
   have := f.ahead u hu
   omega
theorem Casc.step {S : WS} {l x : Nat} {rest : List Nat} (h : Casc S l (x :: rest)) : ∃ a t b, S.tms = a ++ t :: b ∧ t.blk = x ∧ (∀ u ∈ S.tms, u.blk ∉ t.blk :: rest → u.pos = (t.place S.now).pos → u.seq < t.seq) ∧ Casc (S.put a t b) l rest := by
 obtain ⟨t, ht, rfl⟩ := h.mem x (by simp)
 obtain ⟨a, b, hS⟩ := List.append_of_mem ht
 obtain ⟨hn1, hn2⟩ := List.nodup_cons.1 h.nd
 obtain ⟨k1, k2, k3⟩ := nr h.inv ht
 have hlow : ∀ u ∈ S.tms, u.blk ∉ t.blk :: rest → u.pos = (t.place S.now).pos → u.seq < t.seq := fun u hu hun hp => by
  obtain ⟨q1, q2⟩ := h.inv.lvl' hu hun
  have hlv : u.lvl = (t.place S.now).lvl := by
   unfold Tmr.pos at hp
   omega
  have : (t.place S.now).lvl < l := h.low t ht (by simp)
  exact h.placed u hu hun (by omega) t ht (by simp)
 obtain ⟨ha, hb⟩ := fP (f := Tmr.blk) (t := t) (by rw [← hS]; exact h.inv.blks)
 have hmem : ∀ u, u ∈ (S.put a t b).tms → (u ∈ S.tms ∧ u.blk ≠ t.blk) ∨ u = t.place S.now := fun u hu => by
  have hu' : u ∈ a ++ t.place S.now :: b := hu
  rw [List.mem_append, List.mem_cons] at hu'
  rcases hu' with h1 | h1 | h1
  · exact .inl ⟨by rw [hS]; simp [h1], ha u h1⟩
  · exact .inr h1
  · exact .inl ⟨by rw [hS]; simp [h1], hb u h1⟩
 have hput : t.place S.now ∈ (S.put a t b).tms := by
  show _ ∈ a ++ t.place S.now :: b
  simp
 have hold : ∀ u ∈ (S.put a t b).tms, u.blk ∈ rest → u ∈ S.tms := fun u hu hr => by
  rcases hmem u hu with h1 | rfl
  · exact h1.1
  · exact absurd hr hn1
 refine ⟨a, t, b, hS, rfl, hlow, h.inv.put hS hn1 hlow, hn2, ?_, ?_, fun u hu hr => h.low u (hold u hu hr) (by simp [hr]), ?_, ⟨_, hput, .inr (h.low t ht (by simp))⟩⟩
 · intro y hy
   obtain ⟨u, hu, e⟩ := h.mem y (by simp [hy])
   have hu' := hu
   rw [hS] at hu'
   refine ⟨u, ?_, e⟩
   show u ∈ a ++ t.place S.now :: b
   rcases List.mem_append.1 hu' with h1 | h1
   · simp [h1]
   · rcases List.mem_cons.1 h1 with rfl | h1
     · exact absurd (e ▸ hy) hn1
     · simp [h1]
 · refine (List.pairwise_cons.1 h.ord).2.imp_of_mem ?_
   intro y z hy hz hyz u hu v hv e1 e2
   exact hyz u (hold u hu (e1 ▸ hy)) v (hold v hv (e2 ▸ hz)) e1 e2
 · intro u hu hun hul v hv hvr
   have hv' := hold v hv hvr
   rcases hmem u hu with h1 | rfl
   · exact h.placed u h1.1 (by simp [h1.2, hun]) hul v hv' (by simp [hvr])
   · exact (List.pairwise_cons.1 h.ord).1 v.blk hvr t ht v hv' rfl rfl
def IsMin (L : List (Pl × Nat)) (x : Pl × Nat) (L' : List (Pl × Nat)) : Prop := ∃ a b, L = a ++ x :: b ∧ L' = a ++ b ∧ (∀ y ∈ a, x.2 < y.2) ∧ ∀ y ∈ b, x.2 ≤ y.2
theorem Fst.min {S : WS} (h : Inv S []) {l s : Nat} (f : Fst S l s) {a b : List Tmr} {t : Tmr} (hS : S.tms = a ++ t :: b) (htp : t.pos = 64 * l + s) (ha : ∀ u ∈ a, u.pos = 64 * l + s → t.due < u.due) (hb : ∀ u ∈ b, u.pos = 64 * l + s → t.due ≤ u.due) : IsMin (S.tms.map kd) (kd t) ((a ++ b).map kd) := by
 have htm : t ∈ S.tms := by rw [hS]; simp
 refine ⟨a.map kd, b.map kd, by rw [hS]; simp, by simp, ?_, ?_⟩
 · intro y hy
   obtain ⟨u, hu, rfl⟩ := List.mem_map.1 hy
   by_cases hp : u.pos = 64 * l + s
   · exact ha u hu hp
   · exact f.lt h htm (by rw [hS]; simp [hu]) htp hp
 · intro y hy
   obtain ⟨u, hu, rfl⟩ := List.mem_map.1 hy
   by_cases hp : u.pos = 64 * l + s
   · exact hb u hu hp
   · exact Nat.le_of_lt (f.lt h htm (by rw [hS]; simp [hu]) htp hp)
theorem Inv.head0 {S : WS} (h : Inv S []) {s : Nat} (f : Fst S 0 s) : ∃ a t b, S.tms = a ++ t :: b ∧ (S.bs (64 * 0 + s))[0]? = some t.blk ∧ t.due = max (bp S.now 0 s) S.now ∧ IsMin (S.tms.map kd) (kd t) ((a ++ b).map kd) := by
 have hi : 64 * 0 + s < 704 := by have := f.hs; omega
 have hbs := h.slot _ hi
 have hz := (h.to0 f).2
 cases hf : S.tms.filter (kg [] (64 * 0 + s)) with
 | nil =>
  rw [hf] at hbs
  exact absurd hbs f.has
 | cons t r =>
  obtain ⟨a, b, hS, ha, ht, hb⟩ := List.filter_eq_cons_iff.1 hf
  have htp : t.pos = 64 * 0 + s := by simpa [kg] using ht
  have htm : t ∈ S.tms := by rw [hS]; simp
  have hdue := hz t htm (by omega)
  refine ⟨a, t, b, hS, by rw [hbs, hf]; rfl, hdue, f.min h hS htp (fun u hu hp => ?_) fun u hu hp => ?_⟩
  · have := ha u hu
    simp [kg, hp] at this
  · have := hz u (by rw [hS]; simp [hu]) (by omega)
    omega
end FK

namespace FK
abbrev KD := Pl × Nat
theorem IsMin.unique {L : List KD} {x y : KD} {L1 L2 : List KD} (h : IsMin L x L1) (k : IsMin L y L2) : x = y ∧ L1 = L2 := by
 obtain ⟨a, b, e1, rfl, ha, hb⟩ := h
 obtain ⟨a', b', e2, rfl, ha', hb'⟩ := k
 rw [e1] at e2
 rcases List.append_eq_append_iff.1 e2 with ⟨as, e3, e4⟩ | ⟨as, e3, e4⟩
 · cases as with
   | nil =>
    simp at e3 e4
    obtain ⟨rfl, rfl⟩ := e4
    subst e3
    exact ⟨rfl, rfl⟩
   | cons z as =>
    simp only [List.cons_append, List.cons.injEq] at e4
    obtain ⟨rfl, rfl⟩ := e4
    have h1 := ha' x (by rw [e3]; simp)
    have h2 := hb y (by simp)
    omega
 · cases as with
   | nil =>
    simp at e3 e4
    obtain ⟨rfl, rfl⟩ := e4
    subst e3
    exact ⟨rfl, rfl⟩
   | cons z as =>
    simp only [List.cons_append, List.cons.injEq] at e4
    obtain ⟨rfl, rfl⟩ := e4
    have h1 := ha y (by rw [e3]; simp)
    have h2 := hb' x (by simp)
    omega
theorem IsMin.perm {L : List KD} {x : KD} {L1 : List KD} (h : IsMin L x L1) : L.Perm (x :: L1) := by
 obtain ⟨a, b, rfl, rfl, _, _⟩ := h
 exact List.perm_middle
theorem IsMin.le {L : List KD} {x : KD} {L1 : List KD} (h : IsMin L x L1) : ∀ y ∈ L, x.2 ≤ y.2 := by
 obtain ⟨a, b, rfl, rfl, h1, h2⟩ := h
 intro y hy
 rcases List.mem_append.1 hy with hy | hy
 · exact Nat.le_of_lt (h1 y hy)
 · rcases List.mem_cons.1 hy with rfl | hy
   · exact Nat.le_refl _
   · exact h2 y hy
theorem IsMin.len {L : List KD} {x : KD} {L1 : List KD} (h : IsMin L x L1) : L.length = L1.length + 1 := by
 have := h.perm.length_eq
 simpa using this
theorem IsMin.mem {L : List KD} {x : KD} {L1 : List KD} (h : IsMin L x L1) : x ∈ L := h.perm.mem_iff.2 (by simp)
inductive Pops (up : Nat) : List KD → List KD → List KD → Prop where
 | done {L : List KD} : (∀ y ∈ L, up < y.2) → Pops up L [] L
 | one {L L1 L2 o : List KD} {x : KD} : IsMin L x L1 → x.2 ≤ up → Pops up L1 o L2 → Pops up L (x :: o) L2
def Till (up : Nat) (L0 o L : List KD) : Prop := ∀ o' L', Pops up L o' L' → Pops up L0 (o ++ o') L'
theorem Till.refl (up : Nat) (L : List KD) : Till up L [] L := fun _ _ h => h
theorem Pops.perm {up : Nat} {L o L' : List KD} (h : Pops up L o L') : L.Perm (o ++ L') := by
 induction h with
 | done _ => exact List.Perm.refl _
 | one hm _ _ ih => exact hm.perm.trans (List.Perm.cons _ ih)
theorem Pops.len {up : Nat} {L o L' : List KD} (h : Pops up L o L') : L.length = o.length + L'.length := by
 have := h.perm.length_eq
 simpa using this
def WS.add (S : WS) (t : Tmr) : WS := { S with seq := S.seq + 1, tms := S.tms ++ [t] }
theorem Inv.add {S : WS} (h : Inv S []) {t : Tmr} (hk : t.key ∉ S.tms.map Tmr.key) (hb : t.blk ∉ S.tms.map Tmr.blk) (hs : t.seq = S.seq + 1) (hd : S.now ≤ t.due ∧ t.due ≤ 2 ^ 62) : Inv (S.add t) [t.blk] := by
 have hmem : ∀ u, u ∈ (S.add t).tms → u ∈ S.tms ∨ u = t := fun u hu => by
  have : u ∈ S.tms ++ [t] := hu
  simpa using this
 refine ⟨h.nowle, ?_, ?_, ?_, ?_, ?_, ?_, ?_, h.used, h.uslt⟩
 · show ((S.tms ++ [t]).map Tmr.key).Nodup
   rw [List.map_append, List.nodup_append]
   refine ⟨h.keys, by simp, fun x hx y hy e => ?_⟩
   simp at hy
   exact hk (by rw [← hy, ← e]; exact hx)
 · show ((S.tms ++ [t]).map Tmr.blk).Nodup
   rw [List.map_append, List.nodup_append]
   refine ⟨h.blks, by simp, fun x hx y hy e => ?_⟩
   simp at hy
   exact hb (by rw [← hy, ← e]; exact hx)
 · show (S.tms ++ [t]).Pairwise _
   rw [List.pairwise_append]
   refine ⟨h.seqs, by simp, fun x hx y hy => ?_⟩
   simp at hy
   subst hy
   have := h.seqle x hx
   omega
 · intro u hu
   show u.seq ≤ S.seq + 1
   rcases hmem u hu with hu | rfl
   · have := h.seqle u hu; omega
   · omega
 · intro u hu
   rcases hmem u hu with hu | rfl
   · exact h.due u hu
   · exact hd
 · intro u hu hun
   rcases hmem u hu with hu | rfl
   · exact h.pl u hu (by simp)
   · simp at hun
 · intro i hi
   show S.bs i = ((S.tms ++ [t]).filter (kg [t.blk] i)).map Tmr.blk
   rw [h.slot i hi, List.filter_append]
   have h1 : [t].filter (kg [t.blk] i) = [] := by simp [kg]
   rw [h1, List.append_nil]
   congr 1
   refine List.filter_congr fun u hu => ?_
   have : u.blk ≠ t.blk := fun e => hb (e ▸ List.mem_map_of_mem hu)
   simp [kg, this]
theorem Inv.add_low {S : WS} (h : Inv S []) {t : Tmr} (hs : t.seq = S.seq + 1) : ∀ u ∈ (S.add t).tms, u.blk ∉ [t.blk] → u.seq < t.seq := fun u hu hun => by
 have : u ∈ S.tms ++ [t] := hu
 rcases List.mem_append.1 this with hu | hu
 · have := h.seqle u hu; omega
 · simp at hu; subst hu; simp at hun
def Best (F : List Tmr) (i j : Nat) (t : Tmr) : Prop := F[j]? = some t ∧ j < i ∧ (∀ k u, k < j → F[k]? = some u → t.due < u.due) ∧ ∀ k u, j < k → k < i → F[k]? = some u → t.due ≤ u.due
theorem Best.lt {F : List Tmr} {i j : Nat} {t u : Tmr} (h : Best F i j t) (hs : F.Pairwise fun a b => a.seq < b.seq) (hu : F[i]? = some u) (hl : u.due < t.due ∨ u.due = t.due ∧ u.seq < t.seq) : Best F (i + 1) i u := by
 obtain ⟨h1, h2, h3, h4⟩ := h
 have hlt : u.due < t.due := by
  rcases hl with hl | ⟨_, hl⟩
  · exact hl
  · obtain ⟨hj, ej⟩ := List.getElem?_eq_some_iff.1 h1
    obtain ⟨hi, ei⟩ := List.getElem?_eq_some_iff.1 hu
    have := List.pairwise_iff_getElem.1 hs j i hj hi h2
    rw [ej, ei] at this
    omega
 refine ⟨hu, by omega, fun k v hk hv => ?_, fun k v h5 h6 => by omega⟩
 rcases Nat.lt_trichotomy k j with h | h | h
 · have := h3 k v h hv; omega
 · subst h
   rw [h1] at hv
   injection hv with hv
   subst hv
   exact hlt
 · have := h4 k v h hk hv; omega
end FK

namespace FK
structure RingOk (N f : Nat) (q : List Pl) (rg : Nat → Pl) : Prop where
 len : q.length ≤ N
 big : N ≤ 2000
 fst : f < N ∨ N = 0 ∧ f = 0
 item : ∀ k p, q[k]? = some p → rg ((f + k) % N) = p
theorem RingOk.pos {N f : Nat} {q : List Pl} {rg : Nat → Pl} (h : RingOk N f q rg) (hq : 0 < q.length) : 0 < N ∧ f < N := by
 have := h.len
 rcases h.fst with h | h <;> omega
theorem RingOk.push {N f : Nat} {q : List Pl} {rg : Nat → Pl} (h : RingOk N f q rg) (hl : q.length < N) (p : Pl) : RingOk N f (q ++ [p]) (dy rg ((f + q.length) % N) p) := by
 refine ⟨by simp; omega, h.big, h.fst, fun k u hu => ?_⟩
 rcases Nat.lt_or_ge k q.length with hk | hk
 · rw [List.getElem?_append_left hk] at hu
   have h1 := h.item k u hu
   rw [bK, h1]
   intro e
   have hf : f < N := by rcases h.fst with h | h <;> omega
   rcases Nat.lt_or_ge (f + k) N with a | a <;> rcases Nat.lt_or_ge (f + q.length) N with b | b
   · rw [Nat.mod_eq_of_lt a, Nat.mod_eq_of_lt b] at e; omega
   · rw [Nat.mod_eq_of_lt a, Nat.mod_eq_sub_mod b, Nat.mod_eq_of_lt (by omega)] at e; omega
   · rw [Nat.mod_eq_of_lt b, Nat.mod_eq_sub_mod a, Nat.mod_eq_of_lt (by omega)] at e; omega
   · rw [Nat.mod_eq_sub_mod a, Nat.mod_eq_sub_mod b, Nat.mod_eq_of_lt (by omega), Nat.mod_eq_of_lt (by omega)] at e; omega
 · rw [List.getElem?_append_right hk] at hu
   have hk0 : k - q.length = 0 := by
    have := (List.getElem?_eq_some_iff.1 hu).1
    simp at this; omega
   have : k = q.length := by omega
   subst this
   rw [ch]
   simp at hu
   exact hu
theorem RingOk.pop {N f : Nat} {q : List Pl} {p z : Pl} {rg : Nat → Pl} (h : RingOk N f (p :: q) rg) : rg f = p ∧ RingOk N ((f + 1) % N) q (dy rg f z) := by
 obtain ⟨hN, hf⟩ := h.pos (by simp)
 have hl := h.len
 simp only [List.length_cons] at hl
 have h0 := h.item 0 p rfl
 rw [Nat.add_zero, Nat.mod_eq_of_lt hf] at h0
 refine ⟨h0, by omega, h.big, .inl (Nat.mod_lt _ hN), fun k u hu => ?_⟩
 have hk := (List.getElem?_eq_some_iff.1 hu).1
 have h1 := h.item (k + 1) u (by simpa using hu)
 have e : ((f + 1) % N + k) % N = (f + (k + 1)) % N := by rw [Nat.add_mod ((f + 1) % N), Nat.mod_mod, ← Nat.add_mod]; congr 1; omega
 rw [e, bK, h1]
 intro e
 rcases Nat.lt_or_ge (f + (k + 1)) N with a | a
 · rw [Nat.mod_eq_of_lt a] at e; omega
 · rw [Nat.mod_eq_sub_mod a, Nat.mod_eq_of_lt (by omega)] at e; omega
def kN (N f : Nat) (rg : Nat → Pl) : Nat → Pl := fun i => if i < N - f then rg (f + i) else if i < N then rg (i - (N - f)) else ⟨0, 0, 0⟩
theorem RingOk.grow {N f : Nat} {q : List Pl} {rg : Nat → Pl} (h : RingOk N f q rg) (hq : q.length = N) (hN : N ≤ 1000) : RingOk (max 4 (2 * N)) 0 q (kN N f rg) := by
 refine ⟨by omega, by omega, .inl (by omega), fun k p hk => ?_⟩
 have hlt := (List.getElem?_eq_some_iff.1 hk).1
 have h1 := h.item k p hk
 have hf : f < N := (h.pos (by omega)).2
 rw [Nat.zero_add, Nat.mod_eq_of_lt (by omega)]
 unfold kN
 split
 · rw [Nat.mod_eq_of_lt (by omega)] at h1
   exact h1
 · rw [if_pos (by omega)]
   rw [Nat.mod_eq_sub_mod (by omega), Nat.mod_eq_of_lt (by omega)] at h1
   rw [← h1]
   congr 1
   omega
end FK

namespace FK
structure Sp where
 state : Int
 tries : Int
 token : Nat
structure Rn where
 fl : Flow
 state : Int
 steps : List Sp
 ended : Nat
structure En where
 now : Nat
 seed : Nat
 lastRun : Nat
 lastToken : Nat
 ends : Nat
 runs : List (Nat × Rn)
 tasks : List (Nat × Pl)
 queue : List Pl
 tms : List KD
 sets : Nat
def En.getR (S : En) (id : Nat) : Option Rn := (S.runs.find? (·.1 == id)).map (·.2)
def En.setR (S : En) (id : Nat) (R : Rn) : En := { S with runs := S.runs.map fun r => if r.1 == id then (r.1, R) else r }
def Rn.setS (R : Rn) (k : Nat) (s : Sp) : Rn := { R with steps := R.steps.set k s }
def En.later (S : En) (n : Nat) : Nat := min (S.now + n) 4611686018427387904
def En.setT (S : En) (p : Pl) (a : Nat) : En := { S with tms := S.tms.filter (fun x => x.1 != p) ++ [(p, a)], sets := S.sets + 1 }
def En.unset (S : En) (p : Pl) : En := { S with tms := S.tms.filter fun x => x.1 != p }
def En.unrun (S : En) (id : Nat) : En := { S with runs := S.runs.eraseP (·.1 == id) }
def En.onS (S : En) (id k : Nat) (g : Sp → Sp) : En := match S.getR id with
 | some R => match R.steps[k]? with
  | some s => S.setR id (R.setS k (g s))
  | none => S
 | none => S
def En.ready (S : En) (id k : Nat) : En := { S.onS id k (fun s => { s with state := 2 }) with queue := S.queue ++ [⟨id, (k : Int), 0⟩] }
def bR (l : List Sp) (k : Nat) (x : Int) : Bool := match l[k]? with | some s => s.state == x | none => false
def cZ (R : Rn) (k : Nat) : Bool := bR R.steps k 1 && (match R.fl.nodes[k]? with | some n => n.after.all fun u => bR R.steps u.toNat 5 | none => false)
def En.wakeK (id : Nat) (S : En) (k : Nat) : En := match S.getR id with
 | some R => if cZ R k then S.ready id k else S
 | none => S
def En.wakeN (S : En) (id n : Nat) : En := (List.range n).foldl (En.wakeK id) S
def En.wake (S : En) (id : Nat) : En := match S.getR id with | some R => S.wakeN id R.fl.nodes.length | none => S
def En.life (S : En) (p : Pl) (n : Node) : En := if 0 < n.beat then S.setT ⟨p.run, p.node, 2⟩ (S.later n.beat.toNat) else S
def En.leave (S : En) (id k : Nat) : En := match S.getR id with
 | some R => match R.steps[k]? with
  | some s => (({ S with tasks := S.tasks.eraseP (·.1 == s.token) }.setR id (R.setS k { s with token := 0 })).unset ⟨id, (k : Int), 1⟩).unset ⟨id, (k : Int), 2⟩
  | none => S
 | none => S
def m1 (id : Nat) (S : En) (k : Nat) : En := (S.leave id k).onS id k fun s => if s.state = 5 ∨ s.state = 6 then s else { s with state := 7 }
def En.endN (S : En) (id n : Nat) : En := (List.range n).foldl (m1 id) S
def En.finish (S : En) (id : Nat) (st : Int) : En := match S.getR id with
 | some R =>
  let T := ({ S with ends := S.ends + 1 }.setR id { R with state := st, ended := S.ends + 1 }).unset ⟨id, -1, 0⟩
  let U := T.endN id R.steps.length
  { U with queue := U.queue.filter fun p => p.run != id }
 | none => S
def over (s : Sp) : Bool := s.state == 5 || s.state == 6 || s.state == 7
def En.settle (S : En) (id : Nat) : En := match S.getR id with
 | some R => if R.steps.all over then S.finish id (if R.steps.all fun s => s.state == 5 then 2 else 3) else S
 | none => S
def En.complete (S : En) (tok : Nat) : En := match (S.tasks.find? (·.1 == tok)).map (·.2) with
 | some p => (((S.leave p.run p.node.toNat).onS p.run p.node.toNat fun s => { s with state := 5 }).wake p.run).settle p.run
 | none => S
def bS (ns : List Node) (l : List Sp) (k : Nat) : List Sp := match l[k]?, ns[k]? with
 | some s, some n => if s.state = 1 ∧ (n.after.any fun u => bR l u.toNat 6 || bR l u.toNat 7) then l.set k { s with state := 7 } else l
 | _, _ => l
end FK

namespace FK
theorem rI {l : List (Nat × Rn)} {id : Nat} {R : Rn} (k : Nat) : (l.map fun r => if r.1 == id then (r.1, R) else r).find? (·.1 == k) = (l.find? (·.1 == k)).map fun r => if r.1 == id then (r.1, R) else r := by
 induction l with
 | nil => rfl
 | cons x l ih =>
  simp only [List.map_cons, List.find?_cons]
  have h : (if x.1 == id then (x.1, R) else x).1 = x.1 := by split <;> rfl
  rw [h]
  cases x.1 == k with
  | true => rfl
  | false => exact ih
theorem cg {S : En} {id : Nat} {R R' : Rn} (h : S.getR id = some R) : (S.setR id R').getR id = some R' := by
 unfold En.getR En.setR at *
 simp only
 rw [rI]
 cases hf : S.runs.find? (·.1 == id) with
 | none => rw [hf] at h; cases h
 | some x =>
  have : x.1 = id := by simpa using List.find?_some hf
  simp [this]
theorem dM {S : En} {id k : Nat} {R' : Rn} (h : k ≠ id) : (S.setR id R').getR k = S.getR k := by
 unfold En.getR En.setR
 simp only
 rw [rI]
 cases hf : S.runs.find? (·.1 == k) with
 | none => rfl
 | some x =>
  have h1 : x.1 = k := by simpa using List.find?_some hf
  have h2 : ¬ x.1 = id := by rw [h1]; exact h
  simp [h2]
theorem dX {S : En} {id : Nat} {A B : Rn} : (S.setR id A).setR id B = S.setR id B := by
 unfold En.setR
 simp only [List.map_map]
 congr 1
 refine List.map_congr_left fun x _ => ?_
 simp only [Function.comp_apply]
 by_cases h : x.1 = id <;> simp [h]
theorem m8 {S : En} {id k : Nat} {R : Rn} {s : Sp} (g : Sp → Sp) (hR : S.getR id = some R) (hs : R.steps[k]? = some s) : S.onS id k g = S.setR id (R.setS k (g s)) := by
 unfold En.onS
 rw [hR]
 simp only [hs]
theorem gR {S : En} {id k : Nat} {R : Rn} {s : Sp} (hR : S.getR id = some R) (hs : R.steps[k]? = some s) : S.ready id k = { S.setR id (R.setS k { s with state := 2 }) with queue := S.queue ++ [⟨id, (k : Int), 0⟩] } := by
 unfold En.ready
 rw [m8 _ hR hs]
theorem cR {l : List Sp} {k : Nat} {s : Sp} {x : Int} (h : l[k]? = some s) : bR l k x = (s.state == x) := by
 unfold bR
 rw [h]
theorem qq {l : List Sp} {k : Nat} {x : Int} (h : bR l k x = true) : ∃ s, l[k]? = some s ∧ s.state = x := by
 unfold bR at h
 cases hl : l[k]? with
 | none => rw [hl] at h; cases h
 | some s => rw [hl] at h; exact ⟨s, rfl, by simpa using h⟩
structure SameR (R R' : Rn) : Prop where
 fl : R'.fl = R.fl
 state : R'.state = R.state
 ended : R'.ended = R.ended
 len : R'.steps.length = R.steps.length
theorem SameR.refl (R : Rn) : SameR R R := ⟨rfl, rfl, rfl, rfl⟩
theorem SameR.trans {A B C : Rn} (h : SameR A B) (k : SameR B C) : SameR A C := ⟨k.fl.trans h.fl, k.state.trans h.state, k.ended.trans h.ended, k.len.trans h.len⟩
theorem SameR.setS (R : Rn) (k : Nat) (s : Sp) : SameR R (R.setS k s) := ⟨rfl, rfl, rfl, by simp [Rn.setS]⟩
theorem yK {S : En} {id k : Nat} {R : Rn} (hR : S.getR id = some R) : ∃ R', (En.wakeK id S k).getR id = some R' ∧ SameR R R' ∧ (En.wakeK id S k).queue.length ≤ S.queue.length + 1 := by
 unfold En.wakeK
 rw [hR]
 simp only
 split
 · rename_i hf
   have h1 : bR R.steps k 1 = true := by
    unfold cZ at hf
    simp only [Bool.and_eq_true] at hf
    exact hf.1
   obtain ⟨s, hs, _⟩ := qq h1
   rw [gR hR hs]
   refine ⟨R.setS k { s with state := 2 }, cg hR, SameR.setS _ _ _, ?_⟩
   simp
 · exact ⟨R, hR, SameR.refl R, Nat.le_succ _⟩
theorem j4 {R : Rn} {k : Nat} {s : Sp} {nd : Node} (hs : R.steps[k]? = some s) (hn : R.fl.nodes[k]? = some nd) : cZ R k = (s.state == 1 && nd.after.all fun u => bR R.steps u.toNat 5) := by
 unfold cZ
 rw [cR hs, hn]
theorem ju {S : En} {id k : Nat} {R : Rn} (hR : S.getR id = some R) : En.wakeK id S k = if cZ R k then S.ready id k else S := by
 unfold En.wakeK
 rw [hR]
theorem e8 (S : En) (id n : Nat) : S.wakeN id (n + 1) = En.wakeK id (S.wakeN id n) n := by
 unfold En.wakeN
 rw [List.range_succ, List.foldl_append]
 rfl
theorem ni {S : En} {id : Nat} {R : Rn} (hR : S.getR id = some R) : ∀ n, ∃ R', (S.wakeN id n).getR id = some R' ∧ SameR R R' ∧ (S.wakeN id n).queue.length ≤ S.queue.length + n
 | 0 => ⟨R, hR, SameR.refl R, Nat.le_refl _⟩
 | n + 1 => by
  obtain ⟨R1, h1, h2, h3⟩ := ni hR n
  obtain ⟨R2, k1, k2, k3⟩ := yK (k := n) h1
  rw [e8]
  exact ⟨R2, k1, h2.trans k2, by omega⟩
theorem dm {S : En} {id k : Nat} {R : Rn} {s : Sp} (hR : S.getR id = some R) (hs : R.steps[k]? = some s) : S.leave id k = (({ S with tasks := S.tasks.eraseP (·.1 == s.token) }.setR id (R.setS k { s with token := 0 })).unset ⟨id, (k : Int), 1⟩).unset ⟨id, (k : Int), 2⟩ := by
 unfold En.leave
 rw [hR]
 simp only [hs]
theorem cd {R : Rn} {k : Nat} {s s' : Sp} (hs : R.steps[k]? = some s) : (R.setS k s').steps[k]? = some s' := by
 have := (List.getElem?_eq_some_iff.1 hs).1
 simp [Rn.setS, this]
theorem fV {S : En} {id k : Nat} {R : Rn} {s : Sp} (hR : S.getR id = some R) (hs : R.steps[k]? = some s) : (S.leave id k).getR id = some (R.setS k { s with token := 0 }) := by
 rw [dm hR hs]
 exact cg (S := { S with tasks := S.tasks.eraseP (·.1 == s.token) }) hR
theorem jY {S : En} {id k : Nat} : (S.leave id k).tms.length ≤ S.tms.length := by
 unfold En.leave
 split
 · split
   · exact Nat.le_trans (List.length_filter_le _ _) (List.length_filter_le _ _)
   · exact Nat.le_refl _
 · exact Nat.le_refl _
theorem jH {S : En} {id k : Nat} : (S.leave id k).queue = S.queue := by
 unfold En.leave
 split
 · split <;> rfl
 · rfl
def ez (s : Sp) : Sp := if s.state = 5 ∨ s.state = 6 then s else { s with state := 7 }
theorem mX {S : En} {id k : Nat} {R : Rn} {s : Sp} (hR : S.getR id = some R) (hs : R.steps[k]? = some s) : m1 id S k = (S.leave id k).setR id ((R.setS k { s with token := 0 }).setS k (ez { s with token := 0 })) := by
 unfold m1
 rw [m8 _ (fV hR hs) (cd hs)]
 rfl
theorem jW {R : Rn} {k : Nat} {a b : Sp} : (R.setS k a).setS k b = R.setS k b := by
 unfold Rn.setS
 simp
theorem uj {S : En} {id k : Nat} {R : Rn} {s : Sp} (hR : S.getR id = some R) (hs : R.steps[k]? = some s) : (S.leave id k).setR id (R.setS k { s with token := 0 }) = S.leave id k := by
 rw [dm hR hs]
 show (((({ S with tasks := S.tasks.eraseP (·.1 == s.token) }.setR id (R.setS k { s with token := 0 })).setR id (R.setS k { s with token := 0 })).unset ⟨id, (k : Int), 1⟩).unset ⟨id, (k : Int), 2⟩) = _
 rw [dX]
theorem kb (S : En) (id n : Nat) : S.endN id (n + 1) = m1 id (S.endN id n) n := by
 unfold En.endN
 rw [List.range_succ, List.foldl_append]
 rfl
theorem vG {S : En} {id : Nat} {R : Rn} (hR : S.getR id = some R) : ∀ n, n ≤ R.steps.length → ∃ R', (S.endN id n).getR id = some R' ∧ SameR R R' ∧ (S.endN id n).tms.length ≤ S.tms.length ∧ (S.endN id n).queue = S.queue
 | 0, _ => ⟨R, hR, SameR.refl R, Nat.le_refl _, rfl⟩
 | n + 1, hn => by
  obtain ⟨R1, h1, h2, h3, h4⟩ := vG hR n (by omega)
  obtain ⟨s, hs⟩ : ∃ s, R1.steps[n]? = some s := ⟨R1.steps[n]'(by rw [h2.len]; omega), by simp⟩
  rw [kb, mX h1 hs]
  refine ⟨_, cg (fV h1 hs), h2.trans ((SameR.setS R1 n _).trans (SameR.setS _ n _)), Nat.le_trans jY h3, ?_⟩
  show ((S.endN id n).leave id n).queue = _
  rw [jH, h4]
theorem pC {S : En} {id : Nat} {st : Int} {R : Rn} (hR : S.getR id = some R) : S.finish id st = (let T := ({ S with ends := S.ends + 1 }.setR id { R with state := st, ended := S.ends + 1 }).unset ⟨id, -1, 0⟩
 let U := T.endN id R.steps.length
 { U with queue := U.queue.filter fun p => p.run != id }) := by
 unfold En.finish
 rw [hR]
end FK

namespace FK
def En.hand (S : En) (p : Pl) (q : List Pl) (R : Rn) (s : Sp) (nd : Node) : En :=
 let T := { S with queue := q, lastToken := S.lastToken + 1 }.setR p.run (R.setS p.node.toNat { state := 3, tries := s.tries + 1, token := S.lastToken + 1 })
 let U := { T with tasks := T.tasks ++ [(S.lastToken + 1, p)] }
 (U.setT ⟨p.run, p.node, 1⟩ (U.later nd.close.toNat)).life p nd
def Bz (S : En) (o : Option (Nat × Rn)) : Prop := (∀ m, o = some m → m ∈ S.runs ∧ 0 < m.2.ended) ∧ ∀ r ∈ S.runs, 0 < r.2.ended → ∃ m, o = some m ∧ m.2.ended ≤ r.2.ended
theorem iP {α : Type} {x r : α} : ∀ {l : List α} {j : Nat}, l[j]? = some x → r ∈ l → r = x ∨ r ∈ l.eraseIdx j
 | [], _, h, _ => by simp at h
 | a :: l, 0, h, hr => by
  simp at h
  subst h
  simpa using hr
 | a :: l, j + 1, h, hr => by
  rw [List.eraseIdx_cons_succ]
  rcases List.mem_cons.1 hr with rfl | hr
  · exact .inr (List.mem_cons_self)
  · rcases iP (l := l) (j := j) (by simpa using h) hr with h' | h'
    · exact .inl h'
    · exact .inr (List.mem_cons_of_mem _ h')
abbrev s0 : Sp := ⟨0, 0, 0⟩
abbrev s1 : Sp := ⟨1, 0, 0⟩
def Rn.begun (fl : Flow) : Rn := ⟨fl, 1, List.replicate fl.nodes.length s1, 0⟩
def qX (S S0 : En) : Prop := if S.runs.length = 6 then ∃ o, Bz S o ∧ S0 = (match o with | some m => S.unrun m.1 | none => S) else S0 = S
def En.begin (S : En) (fl : Flow) : En := { S with lastRun := S.lastRun + 1, runs := S.runs ++ [(S.lastRun + 1, Rn.begun fl)] }
def En.submit (S : En) (fl : Flow) : En := (((S.begin fl).setT ⟨S.lastRun + 1, -1, 0⟩ (S.later fl.deadline.toNat)).wake (S.lastRun + 1))
def En.fresh : En := ⟨0, 0, 0, 0, 0, [], [], [], [], 0⟩
theorem oa {S : En} {fl : Flow} (h : ∀ r ∈ S.runs, r.1 ≤ S.lastRun) : (S.begin fl).getR (S.lastRun + 1) = some (Rn.begun fl) := by
 unfold En.getR En.begin
 simp only
 rw [List.find?_append]
 have : S.runs.find? (·.1 == S.lastRun + 1) = none := by
  rw [List.find?_eq_none]
  intro r hr
  have := h r hr
  simp
  omega
 rw [this]
 simp
theorem wi (ns : List Node) (l : List Sp) (k : Nat) : (bS ns l k).length = l.length := by
 unfold bS
 split
 · split <;> simp
 · rfl
theorem jU (ns : List Node) : ∀ (T : List Nat) (l : List Sp), (T.foldl (bS ns) l).length = l.length
 | [], _ => rfl
 | k :: T, l => by rw [List.foldl_cons, jU ns T, wi]
def Rn.turned (R : Rn) (k : Nat) (s : Sp) (st : Int) : Rn := (R.setS k { s with token := 0 }).setS k { s with token := 0, state := st }
def Rn.skips (R : Rn) (T : List Nat) : Rn := { R with steps := T.foldl (bS R.fl.nodes) R.steps }
def En.rests (S : En) (id k : Nat) (R : Rn) (s : Sp) (wait : Nat) : En := ((S.leave id k).setR id (R.turned k s 4)).setT ⟨id, (k : Int), 1⟩ ((S.leave id k).later wait)
def En.dies (S : En) (id k : Nat) (R : Rn) (s : Sp) (T : List Nat) : En := ((S.leave id k).setR id ((R.turned k s 6).skips T)).settle id
end FK
