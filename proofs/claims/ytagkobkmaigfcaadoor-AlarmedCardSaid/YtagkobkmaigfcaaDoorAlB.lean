/- Plain laws on a wheel: what is in which slot, through each of its calls. -/
import Derived.Test.YtagkobkmaigfcaaDoorAlA
namespace FK

def upd {α : Type} (f : Nat → α) (i : Nat) (v : α) : Nat → α := fun j => if j = i then v else f j
theorem upd_at {α : Type} (f : Nat → α) (i : Nat) (v : α) : upd f i v i = v := by simp [upd]
theorem upd_off {α : Type} (f : Nat → α) {i j : Nat} (v : α) (h : j ≠ i) : upd f i v j = f j := by simp [upd, h]

structure Tmr where
  key : Int
  due : Nat
  seq : Nat
  blk : Nat
  lvl : Nat
  slot : Nat
def Tmr.pos (t : Tmr) : Nat := 64 * t.lvl + t.slot
def Tmr.place (now : Nat) (t : Tmr) : Tmr := { t with lvl := lev now t.due, slot := slt (lev now t.due) t.due }

structure WS where
  now : Nat
  seq : Nat
  us : Nat → Nat
  bs : Nat → List Nat
  tms : List Tmr
def clr (a s : Nat) : Nat := a &&& (18446744073709551616 - (2 ^ s + 1))
def WS.put (S : WS) (a : List Tmr) (t : Tmr) (b : List Tmr) : WS :=
  { S with us := upd S.us (t.place S.now).lvl (S.us (t.place S.now).lvl ||| 2 ^ (t.place S.now).slot), bs := upd S.bs (t.place S.now).pos (S.bs (t.place S.now).pos ++ [t.blk]), tms := a ++ t.place S.now :: b }
def WS.drop (S : WS) (a : List Tmr) (t : Tmr) (b : List Tmr) : WS :=
  { S with us := if (S.bs t.pos).erase t.blk = [] then upd S.us t.lvl (clr (S.us t.lvl) t.slot) else S.us, bs := upd S.bs t.pos ((S.bs t.pos).erase t.blk), tms := a ++ b }
def WS.clear (S : WS) (l s : Nat) : WS := { S with us := upd S.us l (clr (S.us l) s), bs := upd S.bs (64 * l + s) [] }

theorem clr_bit {a s j : Nat} (hs : s < 64) (ha : a < 18446744073709551616) : (clr a s).testBit j = (a.testBit j && !decide (j = s)) := by
  unfold clr
  have h1 : (2 : Nat) ^ s < 2 ^ 64 := Nat.pow_lt_pow_right (by omega) hs
  rw [show (18446744073709551616 : Nat) = 2 ^ 64 by rfl, Nat.testBit_and, Nat.testBit_two_pow_sub_succ h1, Nat.testBit_two_pow]
  by_cases hj : j < 64
  · simp only [hj, decide_true, Bool.true_and]
    by_cases h : s = j
    · subst h; simp
    · simp [h, Ne.symm h]
  · have : a.testBit j = false := Nat.testBit_lt_two_pow (Nat.lt_of_lt_of_le ha (by rw [show (18446744073709551616 : Nat) = 2 ^ 64 by rfl]; exact Nat.pow_le_pow_right (by omega) (by omega)))
    simp [this]
theorem clr_lt {a s : Nat} (ha : a < 18446744073709551616) : clr a s < 18446744073709551616 := Nat.lt_of_le_of_lt Nat.and_le_left ha
theorem or_bit {a s j : Nat} : (a ||| 2 ^ s).testBit j = (a.testBit j || decide (j = s)) := by
  rw [Nat.testBit_or, Nat.testBit_two_pow]
  congr 1
  simp [eq_comm]
theorem or_lt {a s : Nat} (hs : s < 64) (ha : a < 18446744073709551616) : a ||| 2 ^ s < 18446744073709551616 := by
  have h1 : (2 : Nat) ^ s < 2 ^ 64 := Nat.pow_lt_pow_right (by omega) hs
  exact Nat.or_lt_two_pow (n := 64) ha h1

def inS (un : List Nat) (i : Nat) (t : Tmr) : Bool := !(un.contains t.blk) && t.pos == i

structure Inv (S : WS) (un : List Nat) : Prop where
  nowle : S.now ≤ 2 ^ 62
  keys : (S.tms.map Tmr.key).Nodup
  blks : (S.tms.map Tmr.blk).Nodup
  seqs : S.tms.Pairwise fun a b => a.seq < b.seq
  seqle : ∀ t ∈ S.tms, t.seq ≤ S.seq
  due : ∀ t ∈ S.tms, S.now ≤ t.due ∧ t.due ≤ 2 ^ 62
  pl : ∀ t ∈ S.tms, t.blk ∉ un → t.lvl = lev S.now t.due ∧ t.slot = slt t.lvl t.due
  slot : ∀ i, i < 704 → S.bs i = (S.tms.filter (inS un i)).map Tmr.blk
  used : ∀ l s, l < 11 → s < 64 → (S.us l).testBit s = !(S.bs (64 * l + s)).isEmpty
  uslt : ∀ l, l < 11 → S.us l < 18446744073709551616

theorem Inv.lvl {S : WS} {un : List Nat} (h : Inv S un) {t : Tmr} (ht : t ∈ S.tms) : lev S.now t.due < 11 := by
  have := lev_le_ten h.nowle (h.due t ht).2
  omega
theorem Inv.lvl' {S : WS} {un : List Nat} (h : Inv S un) {t : Tmr} (ht : t ∈ S.tms) (hu : t.blk ∉ un) : t.lvl < 11 ∧ t.slot < 64 := by
  obtain ⟨h1, h2⟩ := h.pl t ht hu
  exact ⟨h1 ▸ h.lvl ht, h2 ▸ slt_lt _ _⟩
theorem Inv.pos {S : WS} {un : List Nat} (h : Inv S un) {t : Tmr} (ht : t ∈ S.tms) (hu : t.blk ∉ un) : t.pos < 704 := by
  obtain ⟨h1, h2⟩ := h.lvl' ht hu
  unfold Tmr.pos
  omega
theorem place_lt {S : WS} {un : List Nat} (h : Inv S un) {t : Tmr} (ht : t ∈ S.tms) : (t.place S.now).lvl < 11 ∧ (t.place S.now).slot < 64 ∧ (t.place S.now).pos < 704 := by
  have h1 := h.lvl ht
  have h2 := slt_lt (lev S.now t.due) t.due
  refine ⟨h1, h2, ?_⟩
  show 64 * lev S.now t.due + slt (lev S.now t.due) t.due < 704
  omega

theorem nodup_mid {α β : Type} {f : α → β} {a b : List α} {t : α} (h : ((a ++ t :: b).map f).Nodup) : (∀ u ∈ a, f u ≠ f t) ∧ (∀ u ∈ b, f u ≠ f t) := by
  rw [List.map_append, List.map_cons, List.nodup_append] at h
  obtain ⟨_, h2, h3⟩ := h
  refine ⟨fun u hu e => h3 (f u) (List.mem_map_of_mem hu) (f t) (by simp) e, fun u hu e => ?_⟩
  have := (List.nodup_cons.1 h2).1
  exact this (e ▸ List.mem_map_of_mem hu)

theorem nodup_eq {α β : Type} {f : α → β} : ∀ {l : List α}, (l.map f).Nodup → ∀ {u t : α}, u ∈ l → t ∈ l → f u = f t → u = t
  | [], _, _, _, h, _, _ => by cases h
  | x :: l, hn, u, t, hu, ht, e => by
    rw [List.map_cons, List.nodup_cons] at hn
    rcases List.mem_cons.1 hu with rfl | hu
    · rcases List.mem_cons.1 ht with rfl | ht
      · rfl
      · exact absurd (e ▸ List.mem_map_of_mem ht) hn.1
    · rcases List.mem_cons.1 ht with h0 | ht
      · exact absurd (h0 ▸ e ▸ List.mem_map_of_mem hu) hn.1
      · exact nodup_eq hn.2 hu ht e

/-- a timer goes to its slot -/
theorem Inv.put {S : WS} {a b : List Tmr} {t : Tmr} {rest : List Nat} (h : Inv S (t.blk :: rest)) (hS : S.tms = a ++ t :: b) (hr : t.blk ∉ rest) (hlow : ∀ u ∈ S.tms, u.blk ∉ t.blk :: rest → u.pos = (t.place S.now).pos → u.seq < t.seq) : Inv (S.put a t b) rest := by
  have htm : t ∈ S.tms := by rw [hS]; simp
  obtain ⟨k1, k2, k3⟩ := place_lt h htm
  obtain ⟨ha, hb⟩ := nodup_mid (f := Tmr.blk) (t := t) (by rw [← hS]; exact h.blks)
  have hsame : ∀ i u, u.blk ≠ t.blk → inS rest i u = inS (t.blk :: rest) i u := fun i u hu => by
    simp [inS, hu]
  have hfa : ∀ i, a.filter (inS rest i) = a.filter (inS (t.blk :: rest) i) := fun i => List.filter_congr fun u hu => hsame i u (ha u hu)
  have hfb : ∀ i, b.filter (inS rest i) = b.filter (inS (t.blk :: rest) i) := fun i => List.filter_congr fun u hu => hsame i u (hb u hu)
  have ht0 : ∀ i, inS (t.blk :: rest) i t = false := fun i => by simp [inS]
  have ht1 : ∀ i, inS rest i (t.place S.now) = decide ((t.place S.now).pos = i) := fun i => by
    have : (t.place S.now).blk = t.blk := rfl
    simp [inS, this, hr]
    by_cases he : (t.place S.now).pos = i <;> simp [he]
  have hb0 : b.filter (inS (t.blk :: rest) (t.place S.now).pos) = [] := by
    rw [List.filter_eq_nil_iff]
    intro u hu hin
    simp only [inS, Bool.and_eq_true, Bool.not_eq_true', beq_iff_eq] at hin
    have hum : u ∈ S.tms := by rw [hS]; simp [hu]
    have h1 := hlow u hum (by simpa using hin.1) hin.2
    have h2 := h.seqs
    rw [hS, List.pairwise_append] at h2
    have := (List.pairwise_cons.1 h2.2.1).1 u hu
    omega
  have hold : ∀ i, i < 704 → S.bs i = (a.filter (inS (t.blk :: rest) i) ++ b.filter (inS (t.blk :: rest) i)).map Tmr.blk := fun i hi => by
    rw [h.slot i hi, hS, List.filter_append, List.filter_cons, ht0]; rfl
  have hnew : ∀ i, i < 704 → (S.put a t b).bs i = ((a ++ t.place S.now :: b).filter (inS rest i)).map Tmr.blk := fun i hi => by
    rw [List.filter_append, List.filter_cons, ht1, hfa, hfb]
    show upd S.bs _ _ i = _
    by_cases he : (t.place S.now).pos = i
    · subst he
      rw [upd_at, hold _ hi, hb0]
      simp [Tmr.place]
    · rw [upd_off _ _ (Ne.symm he), hold i hi]
      simp [he]
  have hmem : ∀ u, u ∈ (S.put a t b).tms → (u ∈ S.tms ∧ u.blk ≠ t.blk) ∨ u = t.place S.now := fun u hu => by
    have hu' : u ∈ a ++ t.place S.now :: b := hu
    rw [List.mem_append, List.mem_cons] at hu'
    rcases hu' with h1 | h1 | h1
    · exact .inl ⟨by rw [hS]; simp [h1], ha u h1⟩
    · exact .inr h1
    · exact .inl ⟨by rw [hS]; simp [h1], hb u h1⟩
  refine ⟨h.nowle, ?_, ?_, ?_, ?_, ?_, ?_, hnew, ?_, ?_⟩
  · have := h.keys
    rw [hS] at this
    simpa [WS.put, Tmr.place] using this
  · have := h.blks
    rw [hS] at this
    simpa [WS.put, Tmr.place] using this
  · have := h.seqs
    rw [hS] at this
    show (a ++ t.place S.now :: b).Pairwise _
    rw [List.pairwise_append, List.pairwise_cons] at this ⊢
    refine ⟨this.1, ⟨this.2.1.1, this.2.1.2⟩, fun x hx y hy => ?_⟩
    rcases List.mem_cons.1 hy with rfl | hy
    · exact this.2.2 x hx t (by simp)
    · exact this.2.2 x hx y (by simp [hy])
  · intro u hu
    rcases hmem u hu with h1 | rfl
    · exact h.seqle u h1.1
    · exact h.seqle t htm
  · intro u hu
    rcases hmem u hu with h1 | rfl
    · exact h.due u h1.1
    · exact h.due t htm
  · intro u hu hun
    rcases hmem u hu with h1 | rfl
    · exact h.pl u h1.1 (by simp [h1.2, hun])
    · exact ⟨rfl, rfl⟩
  · intro l s hl hs
    show (upd S.us _ _ l).testBit s = !(upd S.bs _ _ (64 * l + s)).isEmpty
    have hu := h.used l s hl hs
    by_cases hlv : l = (t.place S.now).lvl
    · subst hlv
      rw [upd_at, or_bit]
      by_cases hsl : s = (t.place S.now).slot
      · subst hsl
        rw [show 64 * (t.place S.now).lvl + (t.place S.now).slot = (t.place S.now).pos from rfl, upd_at]
        simp
      · rw [upd_off _ _ (by unfold Tmr.pos; omega), hu]
        simp [hsl]
    · rw [upd_off _ _ hlv, upd_off _ _ (by unfold Tmr.pos; omega), hu]
  · intro l hl
    show upd S.us _ _ l < _
    by_cases hlv : l = (t.place S.now).lvl
    · subst hlv
      rw [upd_at]
      exact or_lt k2 (h.uslt _ hl)
    · rw [upd_off _ _ hlv]
      exact h.uslt l hl

/-- a timer goes -/
theorem Inv.drop {S : WS} {a b : List Tmr} {t : Tmr} (h : Inv S []) (hS : S.tms = a ++ t :: b) : Inv (S.drop a t b) [] := by
  have htm : t ∈ S.tms := by rw [hS]; simp
  obtain ⟨k1, k2⟩ := h.lvl' htm (by simp)
  have k3 := h.pos htm (by simp)
  obtain ⟨ha, hb⟩ := nodup_mid (f := Tmr.blk) (t := t) (by rw [← hS]; exact h.blks)
  have hsub : (a ++ b).Sublist S.tms := by
    rw [hS]
    exact List.Sublist.append (List.Sublist.refl a) (List.sublist_cons_self t b)
  have ht1 : ∀ i, inS [] i t = decide (t.pos = i) := fun i => by
    simp [inS]
    by_cases he : t.pos = i <;> simp [he]
  have hold : ∀ i, i < 704 → S.bs i = ((a ++ t :: b).filter (inS [] i)).map Tmr.blk := fun i hi => by rw [h.slot i hi, hS]
  have hnew : ∀ i, i < 704 → (S.drop a t b).bs i = ((a ++ b).filter (inS [] i)).map Tmr.blk := fun i hi => by
    show upd S.bs _ _ i = _
    by_cases he : t.pos = i
    · subst he
      rw [upd_at, hold _ hi, List.filter_append, List.filter_append, List.filter_cons, ht1]
      simp only [decide_true, if_true, List.map_append, List.map_cons]
      rw [List.erase_append_right, List.erase_cons_head]
      intro hm
      obtain ⟨u, hu, e⟩ := List.mem_map.1 hm
      exact ha u (List.mem_filter.1 hu).1 e
    · rw [upd_off _ _ (Ne.symm he), hold i hi, List.filter_append, List.filter_append, List.filter_cons, ht1]
      simp [he]
  refine ⟨h.nowle, h.keys.sublist (hsub.map _), h.blks.sublist (hsub.map _), h.seqs.sublist hsub, fun u hu => h.seqle u (hsub.subset hu), fun u hu => h.due u (hsub.subset hu), fun u hu => h.pl u (hsub.subset hu), hnew, ?_, ?_⟩
  · intro l s hl hs
    show ((if (S.bs t.pos).erase t.blk = [] then upd S.us t.lvl (clr (S.us t.lvl) t.slot) else S.us) l).testBit s = !(upd S.bs _ _ (64 * l + s)).isEmpty
    have hu := h.used l s hl hs
    by_cases hp : 64 * l + s = t.pos
    · have hls : l = t.lvl ∧ s = t.slot := by unfold Tmr.pos at hp; omega
      obtain ⟨rfl, rfl⟩ := hls
      rw [hp, upd_at]
      split
      · rename_i he
        rw [upd_at, clr_bit k2 (h.uslt _ k1), he]
        simp
      · rename_i he
        rw [hu, hp]
        have hne : S.bs t.pos ≠ [] := fun h0 => by rw [h0] at he; simp at he
        rw [List.isEmpty_eq_false_iff.2 he, List.isEmpty_eq_false_iff.2 hne]
    · rw [upd_off _ _ hp, ← hu]
      split
      · by_cases hlv : l = t.lvl
        · subst hlv
          have : s ≠ t.slot := fun hs' => hp (by unfold Tmr.pos; omega)
          rw [upd_at, clr_bit k2 (h.uslt _ k1)]
          simp [this]
        · rw [upd_off _ _ hlv]
      · rfl
  · intro l hl
    show (if (S.bs t.pos).erase t.blk = [] then upd S.us t.lvl (clr (S.us t.lvl) t.slot) else S.us) l < _
    split
    · by_cases hlv : l = t.lvl
      · subst hlv; rw [upd_at]; exact clr_lt (h.uslt _ hl)
      · rw [upd_off _ _ hlv]; exact h.uslt l hl
    · exact h.uslt l hl

/-- the first slot that is used -/
structure Fst (S : WS) (l s : Nat) : Prop where
  hl : l < 11
  hs : s < 64
  has : S.bs (64 * l + s) ≠ []
  ahead : ∀ t ∈ S.tms, l < t.lvl ∨ t.lvl = l ∧ s ≤ t.slot

theorem Inv.mem_slot {S : WS} {un : List Nat} (h : Inv S un) {t : Tmr} (ht : t ∈ S.tms) (hu : t.blk ∉ un) : t.blk ∈ S.bs t.pos := by
  rw [h.slot _ (h.pos ht hu)]
  exact List.mem_map.2 ⟨t, List.mem_filter.2 ⟨ht, by simp [inS, hu]⟩, rfl⟩
theorem Inv.of_slot {S : WS} {un : List Nat} (h : Inv S un) {i b : Nat} (hi : i < 704) (hb : b ∈ S.bs i) : ∃ t ∈ S.tms, t.blk = b ∧ t.pos = i ∧ t.blk ∉ un := by
  rw [h.slot i hi] at hb
  obtain ⟨t, ht, e⟩ := List.mem_map.1 hb
  obtain ⟨h1, h2⟩ := List.mem_filter.1 ht
  simp only [inS, Bool.and_eq_true, Bool.not_eq_true', beq_iff_eq] at h2
  exact ⟨t, h1, e, h2.2, by simpa using h2.1⟩
theorem pos_parts {t : Tmr} {l s : Nat} (hs : s < 64) (ht : t.slot < 64) (h : t.pos = 64 * l + s) : t.lvl = l ∧ t.slot = s := by
  unfold Tmr.pos at h
  omega

theorem Inv.fst {S : WS} (h : Inv S []) {l s : Nat} (hl : l < 11) (hs : s < 64) (hb : (S.us l).testBit s = true) (hlow : ∀ j, j < s → (S.us l).testBit j = false) (hno : ∀ k, k < l → S.us k = 0) : Fst S l s := by
  refine ⟨hl, hs, ?_, ?_⟩
  · have := h.used l s hl hs
    rw [hb] at this
    intro he
    rw [he] at this
    simp at this
  · intro t ht
    obtain ⟨k1, k2⟩ := h.lvl' ht (by simp)
    have hin := h.mem_slot ht (by simp)
    have hus := h.used t.lvl t.slot k1 k2
    have hne : (S.bs (64 * t.lvl + t.slot)).isEmpty = false := by
      have : S.bs t.pos ≠ [] := fun he => by rw [he] at hin; simp at hin
      simpa [Tmr.pos] using this
    rw [hne] at hus
    rcases Nat.lt_trichotomy t.lvl l with h1 | h1 | h1
    · rw [hno _ h1] at hus; simp at hus
    · right
      refine ⟨h1, Nat.le_of_not_lt fun h2 => ?_⟩
      rw [h1, hlow _ h2] at hus
      simp at hus
    · exact .inl h1

theorem Inv.none {S : WS} (h : Inv S []) (hno : ∀ k, k < 11 → S.us k = 0) : S.tms = [] := by
  apply List.eq_nil_iff_forall_not_mem.2
  intro t ht
  obtain ⟨k1, k2⟩ := h.lvl' ht (by simp)
  have hin := h.mem_slot ht (by simp)
  have hus := h.used t.lvl t.slot k1 k2
  rw [hno _ k1] at hus
  have : S.bs t.pos ≠ [] := fun he => by rw [he] at hin; simp at hin
  simp [Tmr.pos] at hus this
  exact this hus

/-- those in the first slot come ahead of all others -/
theorem Fst.lt {S : WS} (h : Inv S []) {l s : Nat} (f : Fst S l s) {t u : Tmr} (ht : t ∈ S.tms) (hu : u ∈ S.tms) (htp : t.pos = 64 * l + s) (hup : u.pos ≠ 64 * l + s) : t.due < u.due := by
  obtain ⟨k1, k2⟩ := h.lvl' ht (by simp)
  obtain ⟨a1, a2⟩ := pos_parts f.hs k2 htp
  obtain ⟨p1, p2⟩ := h.pl t ht (by simp)
  obtain ⟨q1, q2⟩ := h.pl u hu (by simp)
  rcases f.ahead u hu with h1 | ⟨h1, h2⟩
  · exact lt_of_lev (h.due u hu).1 (by omega)
  · have h3 : s < u.slot := by
      rcases Nat.lt_or_ge s u.slot with h3 | h3
      · exact h3
      · exact absurd (by unfold Tmr.pos; omega) hup
    rw [q2, h1] at h3
    rw [p2, a1] at a2
    exact lt_of_slot (now := S.now) (l := l) (by omega) (by omega) (by omega)
theorem Fst.start {S : WS} (h : Inv S []) {l s : Nat} (f : Fst S l s) {t : Tmr} (ht : t ∈ S.tms) : startOf S.now l s ≤ t.due := by
  obtain ⟨b, hb⟩ := List.exists_mem_of_ne_nil _ f.has
  have hi : 64 * l + s < 704 := by have := f.hl; have := f.hs; omega
  obtain ⟨v, hv, _, hvp, _⟩ := h.of_slot hi hb
  have hvd : startOf S.now l s ≤ v.due := by
    obtain ⟨k1, k2⟩ := h.lvl' hv (by simp)
    obtain ⟨a1, a2⟩ := pos_parts f.hs k2 hvp
    obtain ⟨p1, p2⟩ := h.pl v hv (by simp)
    have := start_le (now := S.now) (due := v.due) (l := l) (by omega)
    rw [p2, a1] at a2
    rw [a2] at this
    exact this
  by_cases htp : t.pos = 64 * l + s
  · obtain ⟨k1, k2⟩ := h.lvl' ht (by simp)
    obtain ⟨a1, a2⟩ := pos_parts f.hs k2 htp
    obtain ⟨p1, p2⟩ := h.pl t ht (by simp)
    have := start_le (now := S.now) (due := t.due) (l := l) (by omega)
    rw [p2, a1] at a2
    rw [a2] at this
    exact this
  · exact Nat.le_of_lt (Nat.lt_of_le_of_lt hvd (f.lt h hv ht hvp htp))

/-- now comes to the first slot, of level 0 -/
theorem Inv.to0 {S : WS} (h : Inv S []) {s : Nat} (f : Fst S 0 s) : Inv { S with now := max (startOf S.now 0 s) S.now } [] ∧ (∀ t ∈ S.tms, t.pos = s → t.due = max (startOf S.now 0 s) S.now) := by
  have hz : ∀ t ∈ S.tms, t.pos = s → t.due = startOf S.now 0 s := fun t ht hp => by
    obtain ⟨k1, k2⟩ := h.lvl' ht (by simp)
    obtain ⟨a1, a2⟩ := pos_parts (l := 0) f.hs k2 (by omega)
    obtain ⟨p1, p2⟩ := h.pl t ht (by simp)
    have := start_zero (now := S.now) (due := t.due) (by omega)
    rw [p2, a1] at a2
    rw [← a2]
    exact this.symm
  obtain ⟨b, hb⟩ := List.exists_mem_of_ne_nil _ f.has
  obtain ⟨v, hv, _, hvp, _⟩ := h.of_slot (by have := f.hs; omega) hb
  have hve := hz v hv (by omega)
  have hvd := h.due v hv
  have hm : max (startOf S.now 0 s) S.now = startOf S.now 0 s := by omega
  rw [hm]
  refine ⟨⟨by show startOf S.now 0 s ≤ _; omega, h.keys, h.blks, h.seqs, h.seqle, fun t ht => ⟨f.start h ht, (h.due t ht).2⟩, fun t ht hu => ?_, h.slot, h.used, h.uslt⟩, hz⟩
  obtain ⟨p1, p2⟩ := h.pl t ht hu
  refine ⟨?_, p2⟩
  show t.lvl = lev (startOf S.now 0 s) t.due
  by_cases htp : t.pos = s
  · have e1 := hz t ht htp
    obtain ⟨k1, k2⟩ := h.lvl' ht (by simp)
    obtain ⟨a1, a2⟩ := pos_parts (l := 0) f.hs k2 (by omega)
    rw [← e1]
    simp [lev, a1]
  · rw [stays_start f.hs ?_, p1]
    rcases f.ahead t ht with h1 | ⟨h1, h2⟩
    · left; omega
    · right
      refine ⟨by omega, fun e => htp ?_⟩
      have e0 : t.slot = s := by rw [p2, h1]; exact e
      unfold Tmr.pos
      omega

/-- now comes to the first slot, of a higher level: what is in it is taken out -/
theorem Inv.toL {S : WS} (h : Inv S []) {l s : Nat} (hl : 1 ≤ l) (f : Fst S l s) : max (startOf S.now l s) S.now = startOf S.now l s ∧ Inv ({ S with now := startOf S.now l s }.clear l s) (S.bs (64 * l + s)) := by
  have hi : 64 * l + s < 704 := by have := f.hl; have := f.hs; omega
  obtain ⟨b, hb⟩ := List.exists_mem_of_ne_nil _ f.has
  obtain ⟨v, hv, _, hvp, _⟩ := h.of_slot hi hb
  have hst : S.now < startOf S.now l s := by
    obtain ⟨k1, k2⟩ := h.lvl' hv (by simp)
    obtain ⟨a1, a2⟩ := pos_parts f.hs k2 hvp
    obtain ⟨p1, p2⟩ := h.pl v hv (by simp)
    have := now_lt_start (now := S.now) (due := v.due) hl (by omega) (h.due v hv).1
    rw [p2, a1] at a2
    rw [a2] at this
    exact this
  have hin : ∀ t ∈ S.tms, t.blk ∉ S.bs (64 * l + s) → t.pos ≠ 64 * l + s := fun t ht hn hp => hn (hp ▸ h.mem_slot ht (by simp))
  have hout : ∀ t ∈ S.tms, t.pos ≠ 64 * l + s → t.blk ∉ S.bs (64 * l + s) := fun t ht hp hb => by
    obtain ⟨u, hu, e, hup, _⟩ := h.of_slot hi hb
    have : u = t := nodup_eq h.blks hu ht e
    exact hp (this ▸ hup)
  refine ⟨by omega, ?_⟩
  refine ⟨?_, h.keys, h.blks, h.seqs, h.seqle, fun t ht => ⟨f.start h ht, (h.due t ht).2⟩, fun t ht hu => ?_, ?_, ?_, ?_⟩
  · show startOf S.now l s ≤ _
    exact Nat.le_trans (f.start h hv) (h.due v hv).2
  · obtain ⟨p1, p2⟩ := h.pl t ht (by simp)
    refine ⟨?_, p2⟩
    show t.lvl = lev (startOf S.now l s) t.due
    have htp := hin t ht hu
    rw [stays_start f.hs ?_, p1]
    rcases f.ahead t ht with h1 | ⟨h1, h2⟩
    · left; omega
    · right
      refine ⟨by omega, fun e => htp ?_⟩
      have e0 : t.slot = s := by rw [p2, h1]; exact e
      unfold Tmr.pos
      omega
  · intro i hi'
    show upd S.bs _ _ i = ((S.tms.filter (inS (S.bs (64 * l + s)) i)).map Tmr.blk)
    by_cases he : i = 64 * l + s
    · subst he
      rw [upd_at]
      symm
      rw [List.map_eq_nil_iff, List.filter_eq_nil_iff]
      intro t ht hs'
      simp only [inS, Bool.and_eq_true, Bool.not_eq_true', beq_iff_eq] at hs'
      exact hin t ht (by simpa using hs'.1) hs'.2
    · rw [upd_off _ _ he, h.slot i hi']
      congr 1
      refine List.filter_congr fun t ht => ?_
      simp only [inS]
      by_cases hp : t.pos = i
      · have h1 := hout t ht (by omega)
        simp [h1]
      · simp [hp]
  · intro k j hk hj
    show (upd S.us _ _ k).testBit j = !(upd S.bs _ _ (64 * k + j)).isEmpty
    have hu := h.used k j hk hj
    by_cases hp : 64 * k + j = 64 * l + s
    · have : k = l ∧ j = s := by have := f.hs; omega
      obtain ⟨rfl, rfl⟩ := this
      rw [upd_at, upd_at, clr_bit f.hs (h.uslt _ f.hl)]
      simp
    · rw [upd_off _ _ hp, ← hu]
      by_cases hkl : k = l
      · subst hkl
        have : j ≠ s := fun e => hp (by omega)
        rw [upd_at, clr_bit f.hs (h.uslt _ f.hl)]
        simp [this]
      · rw [upd_off _ _ hkl]
  · intro k hk
    show upd S.us _ _ k < _
    by_cases hkl : k = l
    · subst hkl
      rw [upd_at]; exact clr_lt (h.uslt _ hk)
    · rw [upd_off _ _ hkl]; exact h.uslt k hk

/-- now comes to a time ahead of the first slot -/
theorem Inv.stay {S : WS} (h : Inv S []) {to : Nat} (h1 : S.now ≤ to) (h2 : to ≤ 2 ^ 62) (hf : S.tms = [] ∨ ∃ l s, Fst S l s ∧ to < startOf S.now l s) : Inv { S with now := to } [] ∧ ∀ t ∈ S.tms, to < t.due := by
  rcases hf with hf | ⟨l, s, f, hlt⟩
  · refine ⟨⟨h2, h.keys, h.blks, h.seqs, h.seqle, fun t ht => ?_, fun t ht => ?_, h.slot, h.used, h.uslt⟩, fun t ht => ?_⟩
    · have : t ∈ S.tms := ht
      rw [hf] at this; cases this
    · have : t ∈ S.tms := ht
      rw [hf] at this; cases this
    · rw [hf] at ht; cases ht
  · have hall : ∀ t ∈ S.tms, to < t.due := fun t ht => Nat.lt_of_lt_of_le hlt (f.start h ht)
    refine ⟨⟨h2, h.keys, h.blks, h.seqs, h.seqle, fun t ht => ⟨Nat.le_of_lt (hall t ht), (h.due t ht).2⟩, fun t ht hu => ?_, h.slot, h.used, h.uslt⟩, hall⟩
    obtain ⟨p1, p2⟩ := h.pl t ht hu
    refine ⟨?_, p2⟩
    show t.lvl = lev to t.due
    rw [stays_to f.hs h1 hlt ?_, p1]
    rcases f.ahead t ht with h3 | ⟨h3, h4⟩
    · left; omega
    · right
      refine ⟨by omega, ?_⟩
      rw [p2, h3] at h4
      exact h4

/-! ### a slot of a higher level goes to lower ones -/
def kd (t : Tmr) : Int × Nat := (t.key, t.due)

structure Casc (S : WS) (l : Nat) (rest : List Nat) : Prop where
  inv : Inv S rest
  nd : rest.Nodup
  mem : ∀ x ∈ rest, ∃ t ∈ S.tms, t.blk = x
  ord : rest.Pairwise fun x y => ∀ t ∈ S.tms, ∀ u ∈ S.tms, t.blk = x → u.blk = y → t.seq < u.seq
  low : ∀ t ∈ S.tms, t.blk ∈ rest → lev S.now t.due < l
  placed : ∀ u ∈ S.tms, u.blk ∉ rest → u.lvl < l → ∀ t ∈ S.tms, t.blk ∈ rest → u.seq < t.seq
  some : ∃ t ∈ S.tms, t.blk ∈ rest ∨ t.lvl < l

theorem Casc.begin {S : WS} (h : Inv S []) {l s : Nat} (hl : 1 ≤ l) (f : Fst S l s) : Casc ({ S with now := startOf S.now l s }.clear l s) l (S.bs (64 * l + s)) := by
  have hi : 64 * l + s < 704 := by have := f.hl; have := f.hs; omega
  have hinv := (h.toL hl f).2
  have hbs := h.slot _ hi
  have hlev : ∀ t ∈ S.tms, t.pos = 64 * l + s → lev (startOf S.now l s) t.due < l := fun t ht hp => by
    obtain ⟨k1, k2⟩ := h.lvl' ht (by simp)
    obtain ⟨a1, a2⟩ := pos_parts f.hs k2 hp
    obtain ⟨p1, p2⟩ := h.pl t ht (by simp)
    have := falls_start (now := S.now) (due := t.due) hl (by omega)
    rw [p2, a1] at a2
    rw [a2] at this
    exact this
  have hpos : ∀ t ∈ S.tms, t.blk ∈ S.bs (64 * l + s) → t.pos = 64 * l + s := fun t ht hb => by
    obtain ⟨u, hu, e, hup, _⟩ := h.of_slot hi hb
    exact nodup_eq h.blks hu ht e ▸ hup
  obtain ⟨b, hb⟩ := List.exists_mem_of_ne_nil _ f.has
  obtain ⟨v, hv, hvb, hvp, _⟩ := h.of_slot hi hb
  refine ⟨hinv, ?_, ?_, ?_, fun t ht hb => hlev t ht (hpos t ht hb), ?_, ⟨v, hv, .inl (hvb ▸ hb)⟩⟩
  · rw [hbs]
    exact h.blks.sublist (List.filter_sublist.map _)
  · intro x hx
    obtain ⟨t, ht, e, _⟩ := h.of_slot hi hx
    exact ⟨t, ht, e⟩
  · rw [hbs, List.pairwise_map]
    refine (h.seqs.sublist List.filter_sublist).imp_of_mem ?_
    intro x y hx hy hxy t ht u hu e1 e2
    have h1 := nodup_eq h.blks ht (List.mem_filter.1 hx).1 e1
    have h2 := nodup_eq h.blks hu (List.mem_filter.1 hy).1 e2
    rw [h1, h2]
    exact hxy
  · intro u hu _ hul t ht _
    have := f.ahead u hu
    omega

theorem Casc.step {S : WS} {l x : Nat} {rest : List Nat} (h : Casc S l (x :: rest)) : ∃ a t b, S.tms = a ++ t :: b ∧ t.blk = x ∧ (∀ u ∈ S.tms, u.blk ∉ t.blk :: rest → u.pos = (t.place S.now).pos → u.seq < t.seq) ∧ Casc (S.put a t b) l rest := by
  obtain ⟨t, ht, rfl⟩ := h.mem x (by simp)
  obtain ⟨a, b, hS⟩ := List.append_of_mem ht
  obtain ⟨hn1, hn2⟩ := List.nodup_cons.1 h.nd
  obtain ⟨k1, k2, k3⟩ := place_lt h.inv ht
  have hlow : ∀ u ∈ S.tms, u.blk ∉ t.blk :: rest → u.pos = (t.place S.now).pos → u.seq < t.seq := fun u hu hun hp => by
    obtain ⟨q1, q2⟩ := h.inv.lvl' hu hun
    have hlv : u.lvl = (t.place S.now).lvl := by
      unfold Tmr.pos at hp
      omega
    have : (t.place S.now).lvl < l := h.low t ht (by simp)
    exact h.placed u hu hun (by omega) t ht (by simp)
  obtain ⟨ha, hb⟩ := nodup_mid (f := Tmr.blk) (t := t) (by rw [← hS]; exact h.inv.blks)
  have hmem : ∀ u, u ∈ (S.put a t b).tms → (u ∈ S.tms ∧ u.blk ≠ t.blk) ∨ u = t.place S.now := fun u hu => by
    have hu' : u ∈ a ++ t.place S.now :: b := hu
    rw [List.mem_append, List.mem_cons] at hu'
    rcases hu' with h1 | h1 | h1
    · exact .inl ⟨by rw [hS]; simp [h1], ha u h1⟩
    · exact .inr h1
    · exact .inl ⟨by rw [hS]; simp [h1], hb u h1⟩
  have hput : t.place S.now ∈ (S.put a t b).tms := by
    show _ ∈ a ++ t.place S.now :: b
    simp
  have hold : ∀ u ∈ (S.put a t b).tms, u.blk ∈ rest → u ∈ S.tms := fun u hu hr => by
    rcases hmem u hu with h1 | rfl
    · exact h1.1
    · exact absurd hr hn1
  refine ⟨a, t, b, hS, rfl, hlow, h.inv.put hS hn1 hlow, hn2, ?_, ?_, fun u hu hr => h.low u (hold u hu hr) (by simp [hr]), ?_, ⟨_, hput, .inr (h.low t ht (by simp))⟩⟩
  · intro y hy
    obtain ⟨u, hu, e⟩ := h.mem y (by simp [hy])
    have hu' := hu
    rw [hS] at hu'
    refine ⟨u, ?_, e⟩
    show u ∈ a ++ t.place S.now :: b
    rcases List.mem_append.1 hu' with h1 | h1
    · simp [h1]
    · rcases List.mem_cons.1 h1 with rfl | h1
      · exact absurd (e ▸ hy) hn1
      · simp [h1]
  · refine (List.pairwise_cons.1 h.ord).2.imp_of_mem ?_
    intro y z hy hz hyz u hu v hv e1 e2
    exact hyz u (hold u hu (e1 ▸ hy)) v (hold v hv (e2 ▸ hz)) e1 e2
  · intro u hu hun hul v hv hvr
    have hv' := hold v hv hvr
    rcases hmem u hu with h1 | rfl
    · exact h.placed u h1.1 (by simp [h1.2, hun]) hul v hv' (by simp [hvr])
    · exact (List.pairwise_cons.1 h.ord).1 v.blk hvr t ht v hv' rfl rfl

/-! ### which comes first -/
/-- x is the first of those that are due first, L' the others -/
def IsMin (L : List (Int × Nat)) (x : Int × Nat) (L' : List (Int × Nat)) : Prop := ∃ a b, L = a ++ x :: b ∧ L' = a ++ b ∧ (∀ y ∈ a, x.2 < y.2) ∧ ∀ y ∈ b, x.2 ≤ y.2

theorem Fst.min {S : WS} (h : Inv S []) {l s : Nat} (f : Fst S l s) {a b : List Tmr} {t : Tmr} (hS : S.tms = a ++ t :: b) (htp : t.pos = 64 * l + s) (ha : ∀ u ∈ a, u.pos = 64 * l + s → t.due < u.due) (hb : ∀ u ∈ b, u.pos = 64 * l + s → t.due ≤ u.due) : IsMin (S.tms.map kd) (kd t) ((a ++ b).map kd) := by
  have htm : t ∈ S.tms := by rw [hS]; simp
  refine ⟨a.map kd, b.map kd, by rw [hS]; simp, by simp, ?_, ?_⟩
  · intro y hy
    obtain ⟨u, hu, rfl⟩ := List.mem_map.1 hy
    by_cases hp : u.pos = 64 * l + s
    · exact ha u hu hp
    · exact f.lt h htm (by rw [hS]; simp [hu]) htp hp
  · intro y hy
    obtain ⟨u, hu, rfl⟩ := List.mem_map.1 hy
    by_cases hp : u.pos = 64 * l + s
    · exact hb u hu hp
    · exact Nat.le_of_lt (f.lt h htm (by rw [hS]; simp [hu]) htp hp)

/-- the first one in the first slot, of level 0 -/
theorem Inv.head0 {S : WS} (h : Inv S []) {s : Nat} (f : Fst S 0 s) : ∃ a t b, S.tms = a ++ t :: b ∧ (S.bs (64 * 0 + s))[0]? = some t.blk ∧ t.due = max (startOf S.now 0 s) S.now ∧ IsMin (S.tms.map kd) (kd t) ((a ++ b).map kd) := by
  have hi : 64 * 0 + s < 704 := by have := f.hs; omega
  have hbs := h.slot _ hi
  have hz := (h.to0 f).2
  cases hf : S.tms.filter (inS [] (64 * 0 + s)) with
  | nil =>
    rw [hf] at hbs
    exact absurd hbs f.has
  | cons t r =>
    obtain ⟨a, b, hS, ha, ht, hb⟩ := List.filter_eq_cons_iff.1 hf
    have htp : t.pos = 64 * 0 + s := by simpa [inS] using ht
    have htm : t ∈ S.tms := by rw [hS]; simp
    have hdue := hz t htm (by omega)
    refine ⟨a, t, b, hS, by rw [hbs, hf]; rfl, hdue, f.min h hS htp (fun u hu hp => ?_) fun u hu hp => ?_⟩
    · have := ha u hu
      simp [inS, hp] at this
    · have := hz u (by rw [hS]; simp [hu]) (by omega)
      omega
end FK

/- Plain laws: which timers a wheel fires, in which order. -/
namespace FK
abbrev KD := Int × Nat

theorem IsMin.unique {L : List KD} {x y : KD} {L1 L2 : List KD} (h : IsMin L x L1) (k : IsMin L y L2) : x = y ∧ L1 = L2 := by
  obtain ⟨a, b, e1, rfl, ha, hb⟩ := h
  obtain ⟨a', b', e2, rfl, ha', hb'⟩ := k
  rw [e1] at e2
  rcases List.append_eq_append_iff.1 e2 with ⟨as, e3, e4⟩ | ⟨as, e3, e4⟩
  · cases as with
    | nil =>
      simp at e3 e4
      obtain ⟨rfl, rfl⟩ := e4
      subst e3
      exact ⟨rfl, rfl⟩
    | cons z as =>
      simp only [List.cons_append, List.cons.injEq] at e4
      obtain ⟨rfl, rfl⟩ := e4
      have h1 := ha' x (by rw [e3]; simp)
      have h2 := hb y (by simp)
      omega
  · cases as with
    | nil =>
      simp at e3 e4
      obtain ⟨rfl, rfl⟩ := e4
      subst e3
      exact ⟨rfl, rfl⟩
    | cons z as =>
      simp only [List.cons_append, List.cons.injEq] at e4
      obtain ⟨rfl, rfl⟩ := e4
      have h1 := ha y (by rw [e3]; simp)
      have h2 := hb' x (by simp)
      omega

theorem IsMin.perm {L : List KD} {x : KD} {L1 : List KD} (h : IsMin L x L1) : L.Perm (x :: L1) := by
  obtain ⟨a, b, rfl, rfl, _, _⟩ := h
  exact List.perm_middle
theorem IsMin.le {L : List KD} {x : KD} {L1 : List KD} (h : IsMin L x L1) : ∀ y ∈ L, x.2 ≤ y.2 := by
  obtain ⟨a, b, rfl, rfl, h1, h2⟩ := h
  intro y hy
  rcases List.mem_append.1 hy with hy | hy
  · exact Nat.le_of_lt (h1 y hy)
  · rcases List.mem_cons.1 hy with rfl | hy
    · exact Nat.le_refl _
    · exact h2 y hy
theorem IsMin.len {L : List KD} {x : KD} {L1 : List KD} (h : IsMin L x L1) : L.length = L1.length + 1 := by
  have := h.perm.length_eq
  simpa using this
theorem IsMin.mem {L : List KD} {x : KD} {L1 : List KD} (h : IsMin L x L1) : x ∈ L := h.perm.mem_iff.2 (by simp)

/-- what comes up to a time, in order; what is left -/
inductive Pops (up : Nat) : List KD → List KD → List KD → Prop where
  | done {L : List KD} : (∀ y ∈ L, up < y.2) → Pops up L [] L
  | one {L L1 L2 o : List KD} {x : KD} : IsMin L x L1 → x.2 ≤ up → Pops up L1 o L2 → Pops up L (x :: o) L2

theorem Pops.unique {up : Nat} {L o o' L1 L2 : List KD} (h : Pops up L o L1) : Pops up L o' L2 → o = o' ∧ L1 = L2 := by
  induction h generalizing o' L2 with
  | done h =>
    intro k
    cases k with
    | done _ => exact ⟨rfl, rfl⟩
    | one hm hx _ => have := h _ hm.mem; omega
  | one hm hx _ ih =>
    intro k
    cases k with
    | done h => have := h _ hm.mem; omega
    | one hm' _ k' =>
      obtain ⟨rfl, rfl⟩ := hm.unique hm'
      obtain ⟨rfl, rfl⟩ := ih k'
      exact ⟨rfl, rfl⟩

/-- so far -/
def Till (up : Nat) (L0 o L : List KD) : Prop := ∀ o' L', Pops up L o' L' → Pops up L0 (o ++ o') L'
theorem Till.refl (up : Nat) (L : List KD) : Till up L [] L := fun _ _ h => h
theorem Till.one {up : Nat} {L0 o L L1 : List KD} {x : KD} (h : Till up L0 o L) (hm : IsMin L x L1) (hx : x.2 ≤ up) : Till up L0 (o ++ [x]) L1 := fun o' L' k => by
  rw [List.append_assoc]
  exact h _ _ (Pops.one hm hx k)
theorem Till.done {up : Nat} {L0 o L : List KD} (h : Till up L0 o L) (hf : ∀ y ∈ L, up < y.2) : Pops up L0 o L := by
  have := h [] L (Pops.done hf)
  simpa using this

theorem Pops.perm {up : Nat} {L o L' : List KD} (h : Pops up L o L') : L.Perm (o ++ L') := by
  induction h with
  | done _ => exact List.Perm.refl _
  | one hm _ _ ih => exact hm.perm.trans (List.Perm.cons _ ih)
theorem Pops.out {up : Nat} {L o L' : List KD} (h : Pops up L o L') : (∀ x ∈ o, x.2 ≤ up) ∧ (∀ y ∈ L', up < y.2) ∧ o.Pairwise (fun x y => x.2 ≤ y.2) := by
  induction h with
  | done h => exact ⟨by simp, h, List.Pairwise.nil⟩
  | one hm hx hp ih =>
    obtain ⟨h1, h2, h3⟩ := ih
    refine ⟨fun y hy => ?_, h2, List.pairwise_cons.2 ⟨fun y hy => ?_, h3⟩⟩
    · rcases List.mem_cons.1 hy with rfl | hy
      · exact hx
      · exact h1 y hy
    · refine hm.le y (hm.perm.mem_iff.2 ?_)
      exact List.mem_cons_of_mem _ (hp.perm.mem_iff.2 (List.mem_append_left _ hy))
theorem Pops.len {up : Nat} {L o L' : List KD} (h : Pops up L o L') : L.length = o.length + L'.length := by
  have := h.perm.length_eq
  simpa using this

/-! ### a new timer -/
/-- the time at which a timer is set -/
def atOf (now a : Nat) : Nat := min (max a (now + 1)) 4611686018427387904
theorem atOf_le (now a : Nat) : atOf now a ≤ 4611686018427387904 := Nat.min_le_right _ _
theorem atOf_ge {now a : Nat} (h : now ≤ 4611686018427387904) : now ≤ atOf now a := by unfold atOf; omega

/-- what a wheel says to a new timer, and the timers behind it -/
def setR (now : Nat) (L : List KD) (k : Int) (a : Nat) : Int × List KD :=
  if k ∈ L.map (·.1) then (8, L) else if L.length = 200 then (5, L) else (0, L ++ [(k, atOf now a)])
def cancelR (L : List KD) (k : Int) : Int × List KD :=
  if k ∈ L.map (·.1) then (0, L.eraseP (·.1 == k)) else (8, L)

/-- a timer more, not yet in its slot -/
def WS.add (S : WS) (t : Tmr) : WS := { S with seq := S.seq + 1, tms := S.tms ++ [t] }
theorem Inv.add {S : WS} (h : Inv S []) {t : Tmr} (hk : t.key ∉ S.tms.map Tmr.key) (hb : t.blk ∉ S.tms.map Tmr.blk) (hs : t.seq = S.seq + 1) (hd : S.now ≤ t.due ∧ t.due ≤ 2 ^ 62) : Inv (S.add t) [t.blk] := by
  have hmem : ∀ u, u ∈ (S.add t).tms → u ∈ S.tms ∨ u = t := fun u hu => by
    have : u ∈ S.tms ++ [t] := hu
    simpa using this
  refine ⟨h.nowle, ?_, ?_, ?_, ?_, ?_, ?_, ?_, h.used, h.uslt⟩
  · show ((S.tms ++ [t]).map Tmr.key).Nodup
    rw [List.map_append, List.nodup_append]
    refine ⟨h.keys, by simp, fun x hx y hy e => ?_⟩
    simp at hy
    exact hk (by rw [← hy, ← e]; exact hx)
  · show ((S.tms ++ [t]).map Tmr.blk).Nodup
    rw [List.map_append, List.nodup_append]
    refine ⟨h.blks, by simp, fun x hx y hy e => ?_⟩
    simp at hy
    exact hb (by rw [← hy, ← e]; exact hx)
  · show (S.tms ++ [t]).Pairwise _
    rw [List.pairwise_append]
    refine ⟨h.seqs, by simp, fun x hx y hy => ?_⟩
    simp at hy
    subst hy
    have := h.seqle x hx
    omega
  · intro u hu
    show u.seq ≤ S.seq + 1
    rcases hmem u hu with hu | rfl
    · have := h.seqle u hu; omega
    · omega
  · intro u hu
    rcases hmem u hu with hu | rfl
    · exact h.due u hu
    · exact hd
  · intro u hu hun
    rcases hmem u hu with hu | rfl
    · exact h.pl u hu (by simp)
    · simp at hun
  · intro i hi
    show S.bs i = ((S.tms ++ [t]).filter (inS [t.blk] i)).map Tmr.blk
    rw [h.slot i hi, List.filter_append]
    have h1 : [t].filter (inS [t.blk] i) = [] := by simp [inS]
    rw [h1, List.append_nil]
    congr 1
    refine List.filter_congr fun u hu => ?_
    have : u.blk ≠ t.blk := fun e => hb (e ▸ List.mem_map_of_mem hu)
    simp [inS, this]
theorem Inv.add_low {S : WS} (h : Inv S []) {t : Tmr} (hs : t.seq = S.seq + 1) : ∀ u ∈ (S.add t).tms, u.blk ∉ [t.blk] → u.seq < t.seq := fun u hu hun => by
  have : u ∈ S.tms ++ [t] := hu
  rcases List.mem_append.1 this with hu | hu
  · have := h.seqle u hu; omega
  · simp at hu; subst hu; simp at hun

/-! ### the first of all -/
theorem Inv.any {S : WS} (h : Inv S []) {l s : Nat} (f : Fst S l s) : S.tms ≠ [] := fun e => by
  obtain ⟨b, hb⟩ := List.exists_mem_of_ne_nil _ f.has
  obtain ⟨v, hv, _⟩ := h.of_slot (by have := f.hl; have := f.hs; omega) hb
  rw [e] at hv
  cases hv

/-- the best of the first i of a list -/
def Best (F : List Tmr) (i j : Nat) (t : Tmr) : Prop := F[j]? = some t ∧ j < i ∧ (∀ k u, k < j → F[k]? = some u → t.due < u.due) ∧ ∀ k u, j < k → k < i → F[k]? = some u → t.due ≤ u.due
theorem Best.first {F : List Tmr} {t : Tmr} (h : F[0]? = some t) : Best F 1 0 t := ⟨h, by omega, fun k u hk => by omega, fun k u h1 h2 => by omega⟩
theorem Best.lt {F : List Tmr} {i j : Nat} {t u : Tmr} (h : Best F i j t) (hs : F.Pairwise fun a b => a.seq < b.seq) (hu : F[i]? = some u) (hl : u.due < t.due ∨ u.due = t.due ∧ u.seq < t.seq) : Best F (i + 1) i u := by
  obtain ⟨h1, h2, h3, h4⟩ := h
  have hlt : u.due < t.due := by
    rcases hl with hl | ⟨_, hl⟩
    · exact hl
    · obtain ⟨hj, ej⟩ := List.getElem?_eq_some_iff.1 h1
      obtain ⟨hi, ei⟩ := List.getElem?_eq_some_iff.1 hu
      have := List.pairwise_iff_getElem.1 hs j i hj hi h2
      rw [ej, ei] at this
      omega
  refine ⟨hu, by omega, fun k v hk hv => ?_, fun k v h5 h6 => by omega⟩
  rcases Nat.lt_trichotomy k j with h | h | h
  · have := h3 k v h hv; omega
  · subst h
    rw [h1] at hv
    injection hv with hv
    subst hv
    exact hlt
  · have := h4 k v h hk hv; omega
theorem Best.ge {F : List Tmr} {i j : Nat} {t u : Tmr} (h : Best F i j t) (hu : F[i]? = some u) (hl : ¬ (u.due < t.due ∨ u.due = t.due ∧ u.seq < t.seq)) : Best F (i + 1) j t := by
  obtain ⟨h1, h2, h3, h4⟩ := h
  refine ⟨h1, by omega, h3, fun k v h5 h6 hv => ?_⟩
  rcases Nat.lt_or_ge k i with h | h
  · exact h4 k v h5 h hv
  · obtain rfl : k = i := by omega
    rw [hu] at hv
    injection hv with hv
    subst hv
    omega
theorem Best.fin {F : List Tmr} {j : Nat} {t : Tmr} (h : Best F F.length j t) : ∃ F1 F2, F = F1 ++ t :: F2 ∧ (∀ u ∈ F1, t.due < u.due) ∧ ∀ u ∈ F2, t.due ≤ u.due := by
  obtain ⟨h1, h2, h3, h4⟩ := h
  obtain ⟨hj, ej⟩ := List.getElem?_eq_some_iff.1 h1
  refine ⟨F.take j, F.drop (j + 1), ?_, fun u hu => ?_, fun u hu => ?_⟩
  · rw [← ej, ← List.drop_eq_getElem_cons hj, List.take_append_drop]
  · obtain ⟨k, hk⟩ := List.getElem?_of_mem hu
    rw [List.getElem?_take] at hk
    split at hk
    · exact h3 k u (by assumption) hk
    · cases hk
  · obtain ⟨k, hk⟩ := List.getElem?_of_mem hu
    rw [List.getElem?_drop] at hk
    exact h4 (j + 1 + k) u (by omega) (List.getElem?_eq_some_iff.1 hk).1 hk

theorem Fst.minAt {S : WS} (h : Inv S []) {l s : Nat} (f : Fst S l s) {F1 F2 : List Tmr} {t : Tmr} (hF : S.tms.filter (inS [] (64 * l + s)) = F1 ++ t :: F2) (h1 : ∀ u ∈ F1, t.due < u.due) (h2 : ∀ u ∈ F2, t.due ≤ u.due) : ∃ L', IsMin (S.tms.map kd) (kd t) L' := by
  obtain ⟨A, B, hS, hA, hB⟩ := List.filter_eq_append_iff.1 hF
  obtain ⟨a, b, hB', ha, ht, hb⟩ := List.filter_eq_cons_iff.1 hB
  have htp : t.pos = 64 * l + s := by simpa [inS] using ht
  refine ⟨((A ++ a) ++ b).map kd, f.min h (a := A ++ a) (b := b) (by rw [hS, hB']; simp) htp (fun u hu hp => ?_) fun u hu hp => ?_⟩
  · rcases List.mem_append.1 hu with hu | hu
    · refine h1 u ?_
      rw [← hA]
      exact List.mem_filter.2 ⟨hu, by simp [inS, hp]⟩
    · have := ha u hu
      simp [inS, hp] at this
  · refine h2 u ?_
    rw [← hb]
    exact List.mem_filter.2 ⟨hu, by simp [inS, hp]⟩
end FK

/- Plain laws of Alarmed: timers by their numbers. -/
namespace FK
def live (n : Nat) (dl : Nat → Nat) (ll : Nat → Bool) : List KD := (List.range n).filterMap fun i => if ll i then some ((i : Int), dl i) else none

theorem mem_live {n : Nat} {dl : Nat → Nat} {ll : Nat → Bool} {p : KD} : p ∈ live n dl ll ↔ ∃ i, i < n ∧ ll i = true ∧ p = ((i : Int), dl i) := by
  unfold live
  rw [List.mem_filterMap]
  constructor
  · rintro ⟨i, hi, h⟩
    split at h
    · injection h with h
      exact ⟨i, List.mem_range.1 hi, by assumption, h.symm⟩
    · cases h
  · rintro ⟨i, hi, hl, rfl⟩
    exact ⟨i, List.mem_range.2 hi, by simp [hl]⟩
theorem live_succ (n : Nat) (dl : Nat → Nat) (ll : Nat → Bool) : live (n + 1) dl ll = live n dl ll ++ if ll n then [((n : Int), dl n)] else [] := by
  unfold live
  rw [List.range_succ, List.filterMap_append]
  cases h : ll n <;> simp [h]
theorem live_keys (n : Nat) (dl : Nat → Nat) (ll : Nat → Bool) : ((live n dl ll).map (·.1)).Nodup := by
  induction n with
  | zero => simp [live]
  | succ n ih =>
    rw [live_succ]
    split
    · rw [List.map_append, List.nodup_append]
      refine ⟨ih, by simp, fun x hx y hy e => ?_⟩
      obtain ⟨p, hp, rfl⟩ := List.mem_map.1 hx
      obtain ⟨i, hi, _, rfl⟩ := mem_live.1 hp
      simp at hy
      subst hy
      simp at e
      omega
    · simpa using ih
theorem live_off {n : Nat} {dl : Nat → Nat} {ll : Nat → Bool} (h : ∀ i, i < n → ll i = false) : live n dl ll = [] := by
  apply List.eq_nil_iff_forall_not_mem.2
  intro p hp
  obtain ⟨i, hi, h1, _⟩ := mem_live.1 hp
  rw [h i hi] at h1
  cases h1
theorem live_congr {n : Nat} {dl dl' : Nat → Nat} {ll ll' : Nat → Bool} (h : ∀ i, i < n → dl i = dl' i) (h' : ∀ i, i < n → ll i = ll' i) : live n dl ll = live n dl' ll' := by
  induction n with
  | zero => rfl
  | succ n ih =>
    rw [live_succ, live_succ, ih (fun i hi => h i (by omega)) (fun i hi => h' i (by omega)), h n (by omega), h' n (by omega)]
theorem live_len (n : Nat) (dl : Nat → Nat) (ll : Nat → Bool) : (live n dl ll).length ≤ n := by
  have := List.length_filterMap_le (fun i => if ll i then some ((i : Int), dl i) else none) (List.range n)
  unfold live
  simpa using this
theorem live_upd (n : Nat) (dl : Nat → Nat) (ll : Nat → Bool) (k : Nat) : live n dl (upd ll k false) = (live n dl ll).filter fun p => p.1 != (k : Int) := by
  induction n with
  | zero => rfl
  | succ n ih =>
    rw [live_succ, live_succ, List.filter_append, ih]
    congr 1
    by_cases h : n = k
    · subst h
      rw [upd_at]
      cases ll n <;> simp
    · rw [upd_off _ _ h]
      have : ((n : Int) != (k : Int)) = true := by simp; omega
      cases ll n <;> simp [this]
theorem filter_mid {a b : List KD} {x : KD} (h : ((a ++ x :: b).map (·.1)).Nodup) : (a ++ x :: b).filter (fun p => p.1 != x.1) = a ++ b := by
  obtain ⟨h1, h2⟩ := nodup_mid h
  rw [List.filter_append, List.filter_cons]
  simp only [bne_self_eq_false, Bool.false_eq_true, if_false]
  rw [List.filter_eq_self.2 (fun u hu => by simpa using h1 u hu), List.filter_eq_self.2 (fun u hu => by simpa using h2 u hu)]
theorem IsMin.filter {L L1 : List KD} {x : KD} (h : IsMin L x L1) (hn : (L.map (·.1)).Nodup) : L1 = L.filter fun p => p.1 != x.1 := by
  obtain ⟨a, b, rfl, rfl, _, _⟩ := h
  exact (filter_mid hn).symm
theorem erase_filter {L : List KD} {k : Int} (hn : (L.map (·.1)).Nodup) (hk : k ∈ L.map (·.1)) : L.eraseP (·.1 == k) = L.filter fun p => p.1 != k := by
  obtain ⟨x, hx, rfl⟩ := List.mem_map.1 hk
  obtain ⟨a, b, rfl⟩ := List.append_of_mem hx
  rw [filter_mid hn]
  obtain ⟨h1, _⟩ := nodup_mid hn
  rw [List.eraseP_append_right _ (fun u hu => by simpa using h1 u hu), List.eraseP_cons_of_pos (by simp)]
theorem live_key {n : Nat} {dl : Nat → Nat} {ll : Nat → Bool} {k : Nat} (hk : k < n) : ((k : Int) ∈ (live n dl ll).map (·.1)) ↔ ll k = true := by
  constructor
  · intro h
    obtain ⟨p, hp, e⟩ := List.mem_map.1 h
    obtain ⟨i, hi, hl, rfl⟩ := mem_live.1 hp
    simp at e
    have : i = k := by omega
    exact this ▸ hl
  · intro h
    exact List.mem_map.2 ⟨((k : Int), dl k), mem_live.2 ⟨k, hk, h, rfl⟩, rfl⟩
/-- a cancel of one of them -/
theorem live_cancel {n : Nat} {dl : Nat → Nat} {ll : Nat → Bool} {k : Nat} (hk : k < n) : cancelR (live n dl ll) k = (if ll k then 0 else 8, live n dl (upd ll k false)) := by
  unfold cancelR
  by_cases h : ll k = true
  · rw [if_pos ((live_key hk).2 h), h, live_upd, erase_filter (live_keys _ _ _) ((live_key hk).2 h)]
    rfl
  · have h' : ll k = false := by simpa using h
    rw [if_neg (fun e => h ((live_key hk).1 e)), h']
    simp only [Bool.false_eq_true, if_false]
    congr 1
    refine live_congr (fun _ _ => rfl) fun i _ => ?_
    by_cases hi : i = k
    · subst hi; rw [upd_at, h']
    · rw [upd_off _ _ hi]
/-- one that comes -/
theorem live_min {n : Nat} {dl : Nat → Nat} {ll : Nat → Bool} {x : KD} {L1 : List KD} (h : IsMin (live n dl ll) x L1) : ∃ k, k < n ∧ ll k = true ∧ x = ((k : Int), dl k) ∧ L1 = live n dl (upd ll k false) := by
  obtain ⟨k, hk, hl, rfl⟩ := mem_live.1 h.mem
  exact ⟨k, hk, hl, rfl, by rw [h.filter (live_keys _ _ _), live_upd]⟩

/-- the pops that are left behind the first i -/
theorem Pops.head {up : Nat} {L L' o : List KD} {x : KD} (h : Pops up L (x :: o) L') : ∃ L1, IsMin L x L1 ∧ x.2 ≤ up ∧ Pops up L1 o L' := by
  cases h with
  | one hm hx h => exact ⟨_, hm, hx, h⟩
theorem Pops.nil' {up : Nat} {L L' : List KD} (h : Pops up L [] L') : L = L' ∧ ∀ y ∈ L, up < y.2 := by
  cases h with
  | done h => exact ⟨rfl, h⟩
end FK
