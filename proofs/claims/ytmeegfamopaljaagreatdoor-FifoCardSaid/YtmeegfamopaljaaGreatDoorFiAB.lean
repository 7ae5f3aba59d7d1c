/- Rows cut from the front: queues. -/
import Derived.Test.YtmeegfamopaljaaGreatDoorFiI
namespace Go.SL
open Go Go.RowKit
def OwnsTail (w : World) (e : TypeId) (size : Nat) (v : Value) (n : Nat) (xs : List Value) : Prop :=
  xs.length = n * size ∧ ((v = .slice none 0 0 ∧ n = 0) ∨ ∃ g o cap cur, v = .slice (some ⟨g, o, none⟩) n cap ∧ w.heap[g]? = some (.cells cur e (0, 0)) ∧ n ≤ cap ∧ cap ≤ maxLen ∧ o + cap * size ≤ cur.size ∧ (cur.toList.drop o).take (n * size) = xs)
def trow (e : TypeId) (size : Nat) (v : Value) (n : Nat) (xs : List Value) : HP where
  sat w F := OwnsTail w e size v n xs ∧ ∀ k, v.ownBlock = some k → F k
  loc {w w' F G} hFG hk h := by
    obtain ⟨⟨h1, h2⟩, h3⟩ := h
    refine ⟨⟨h1, ?_⟩, fun k hk' => hFG _ (h3 k hk')⟩
    rcases h2 with h2 | ⟨g, o, cap, cur, rfl, hg, rest⟩
    · exact .inl h2
    · exact .inr ⟨g, o, cap, cur, rfl, (hk g (h3 g rfl)).trans hg, rest⟩
section
variable {P : Program} {E : Env} {n : Nat} {D : List Deferred} {ts : List (Nat × Value)} {l : List HP} {ops : Array Oper} {Q : Exit → Act → World → Prop} {rest : List Oper} {i : Nat} {ty : TypeId} {pos : String} {af : Array Edge} {g : Option (Nat × Bool)}
theorem Ent.trow0 {e : TypeId} {size : Nat} : Ent l (trow e size (.slice none 0 0) 0 [] :: l) := fun w F s =>
  ⟨fun _ => False, F, fun _ h => h.elim, fun _ h => h, fun _ h => h.elim, ⟨⟨by simp, .inl ⟨rfl, rfl⟩⟩, fun k hk => by cases hk⟩, s⟩
theorem run_append_roomO {w : World} (t ty e : TypeId) (i : TypeInfo) (ht : P.underlying t = some (.slice e)) (hi : P.info? e = some i)
    (g o sLen sCap : Nat) (cur : Array Value) (hg : w.heap[g]? = some (.cells cur e (0, 0)))
    (a : Addr) (m c : Nat) (news : List Value) (hl : news.length = m * i.size) (hnews : ∀ j u, news[j]? = some u → w.cell? (a.add j) = some u) (h1 : ∀ u ∈ news, u.oneCell' = true)
    (hroom : sLen + m ≤ sCap) (hfit : o + sLen * i.size + news.length ≤ cur.size) :
    (Builtin.append_ #[t, t] ty #[.slice (some ⟨g, o, none⟩) sLen sCap, .slice (some a) m c]).run P w =
      .ok (.slice (some ⟨g, o, none⟩) (sLen + m) sCap) (w.setRow g (cur.toList.take (o + sLen * i.size) ++ news ++ cur.toList.drop (o + sLen * i.size + news.length)).toArray) := by
  have hf := run_firstCells_some (P := P) w i.size m a m c news hl hnews
  have hst := run_storeCells_at P g (o + sLen * i.size) e news 0 cur w hg (by simpa using hfit) h1
  simp only [Nat.add_zero] at hst
  have ha : (⟨g, o, none⟩ : Addr).add (sLen * i.size) = ⟨g, o + sLen * i.size, none⟩ := add_plain _ _ _
  simp [Builtin.append_, run_underlying ht, sizeOf, typeInfo, hi, Builtin.lenOf, hroom, hf, ha, hst]
theorem OwnsTail.cells {w : World} {e : TypeId} {size n g o c : Nat} {xs : List Value} (h : OwnsTail w e size (.slice (some ⟨g, o, none⟩) n c) n xs) (j : Nat) (u : Value) (hj : xs[j]? = some u) : w.cell? ⟨g, o + j, none⟩ = some u := by
  obtain ⟨hl, ⟨h1, _⟩ | ⟨g', o', cap, cur, h1, hg, _, _, _, ht⟩⟩ := h
  · cases h1
  · injection h1 with h1 h2 h3
    injection h1 with h1
    injection h1 with h1 h4
    subst h1; subst h4
    rw [← ht] at hj
    have hjl := (List.getElem?_eq_some_iff.1 hj).1
    rw [List.getElem?_take_of_lt (by simp at hjl; omega), List.getElem?_drop] at hj
    simp only [World.cell?, hg]
    rw [Array.getElem?_toList] at hj
    exact hj
theorem run_append_tail {w : World} (t ty e : TypeId) (i : TypeInfo) (z : Value) (size bytes : Nat) (ht : P.underlying t = some (.slice e)) (hi : P.info? e = some i) (hz : i.zero = some z)
    (hsize : i.size = size) (hby : i.bytes = bytes) (hzs : z.cells.size = size) (hsz : 0 < size)
    (v : Value) (n : Nat) (xs : List Value) (hown : OwnsTail w e size v n xs)
    (a : Addr) (m c : Nat) (news : List Value) (hm : 0 < m) (hl : news.length = m * size) (hnews : ∀ j u, news[j]? = some u → w.cell? (a.add j) = some u) (h1 : ∀ u ∈ news, u.oneCell' = true)
    (h63 : n + m ≤ maxLen) (hbytes : (n + m) * bytes ≤ 140737488355328) :
    ∃ v' w', (Builtin.append_ #[t, t] ty #[v, .slice (some a) m c]).run P w = .ok v' w' ∧ OwnsTail w' e size v' (n + m) (xs ++ news) ∧ w.grownBy w' v.ownBlock ∧ (v'.ownBlock = v.ownBlock ∨ v'.ownBlock = some w.heap.size) := by
  subst hsize
  subst hby
  have hsmall : n + m ≤ 9223372036854775807 := by simp only [maxLen] at h63; omega
  have hlen : (xs ++ news).length = (n + m) * i.size := by rw [List.length_append, hown.1, hl, Nat.add_mul]
  have grown : ∀ (old : Nat), old < n + m → ∀ (row : Option Nat),
      OwnsTail (w.drew.alloc (.cells (xs.toArray ++ news.toArray ++ Builtin.zeroCells z.cells (grownCap w (n + m) old e - (n + m))) e)) e i.size
        (.slice (some ⟨w.heap.size, 0, none⟩) (n + m) (grownCap w (n + m) old e)) (n + m) (xs ++ news) ∧
      w.grownBy (w.drew.alloc (.cells (xs.toArray ++ news.toArray ++ Builtin.zeroCells z.cells (grownCap w (n + m) old e - (n + m))) e)) row := by
    intro old ho row
    have hge := grownCap_ge w (n + m) old e
    have hcm : grownCap w (n + m) old e ≤ maxLen := grownCap_le_maxLen w (n + m) old e h63
    refine ⟨⟨hlen, .inr ⟨w.heap.size, 0, _, _, rfl, heap_alloc_new w.drew _, hge, hcm, ?_, ?_⟩⟩, ⟨rfl, rfl, rfl, by simp, fun k hk _ => heap_alloc_old w.drew _ hk⟩⟩
    · simp only [Array.size_append, List.size_toArray, size_zeroCells, hzs, hown.1, hl, ← Nat.add_mul]
      rw [Nat.zero_add, show n + m + (grownCap w (n + m) old e - (n + m)) = grownCap w (n + m) old e by omega]
      exact Nat.le_refl _
    · simp only [List.drop_zero, Array.toList_append, List.append_assoc]
      rw [← List.append_assoc, ← hlen]
      exact List.take_left
  rcases hown.2 with ⟨rfl, rfl⟩ | ⟨g, o, cap, cur, rfl, hg, hnc, hcm, hcs, htake⟩
  · have hx : xs = [] := List.eq_nil_of_length_eq_zero (by simpa using hown.1)
    subst hx
    have hr := run_append_nil (P := P) w t ty e i z ht hi hz a m c news hl hnews (by omega) (by omega) (by have hb := hbytes; simp only [Nat.zero_add] at hb; omega)
    have hgr := grown 0 (by omega) (Value.ownBlock (.slice none 0 0))
    simp only [Nat.zero_add, List.nil_append, Array.empty_append] at hgr ⊢
    exact ⟨_, _, hr, hgr.1, hgr.2, Or.inr rfl⟩
  · by_cases hroom : n + m ≤ cap
    · have hmul : (n + m) * i.size ≤ cap * i.size := Nat.mul_le_mul_right _ hroom
      have hmul2 : (n + m) * i.size = n * i.size + m * i.size := Nat.add_mul _ _ _
      have hfit : o + n * i.size + news.length ≤ cur.size := by rw [hl]; omega
      have hr := run_append_roomO (P := P) (w := w) t ty e i ht hi g o n cap cur hg a m c news hl hnews h1 hroom hfit
      refine ⟨_, _, hr, ⟨hlen, .inr ⟨g, o, cap, _, rfl, setRow_heap w g cur _ e _ hg, hroom, hcm, ?_, ?_⟩⟩, ⟨rfl, rfl, rfl, by simp, fun k _ hk => setRow_other w g k _ (fun e => hk (by simp [Value.ownBlock, e]))⟩, Or.inl rfl⟩
      · simp only [List.size_toArray, List.length_append, List.length_take, List.length_drop, Array.length_toList]
        omega
      · have hxl : xs.length = n * i.size := hown.1
        have hd : (cur.toList.take (o + n * i.size)).drop o = xs := by
          rw [List.drop_take, ← htake]
          congr 1
          omega
        simp only [List.append_assoc]
        rw [List.drop_append_of_le_length (by simp; omega), hd, ← List.append_assoc, ← hlen]
        exact List.take_left
    · have holds : ∀ j u, xs[j]? = some u → w.cell? ((⟨g, o, none⟩ : Addr).add j) = some u := fun j u hj => by rw [add_plain]; exact hown.cells j u hj
      have hr := run_append_grow (P := P) w t ty e i z ht hi hz ⟨g, o, none⟩ n cap xs hown.1 holds a m c news hl hnews (by omega) (by omega) (growslice_fits (by omega) hbytes)
      have hgr := grown cap (by omega) (Value.ownBlock (.slice (some ⟨g, o, none⟩) n cap))
      exact ⟨_, _, hr, hgr.1, hgr.2, Or.inr rfl⟩
theorem Holds.trow {w : World} {r : List HP} {e : TypeId} {size m : Nat} {v : Value} {xs : List Value} (h : Holds E w l) (s : Sel (SL.trow e size v m xs) l r) : OwnsTail w e size v m xs := by
  obtain ⟨F1, _, _, _, _, hp, _⟩ := (h.sel s).star
  exact hp.1
theorem o_appendT {s x : Operand} {t e : TypeId} {z : Value} {size bytes : Nat} {v : Value} {k : Nat} {xs : List Value} {ad : Addr} {m c : Nat} {news : List Value} {r : List HP} {K : Act → World → Prop} (hi : Nat.blt i n = true) (ht : P.underlying t = some (.slice e)) (hel : elemIs P e z size bytes) (hzs : z.cells.size = size) (hsz : 0 < size)
    (hs : ev ts s = some v) (hx : ev ts x = some (.slice (some ad) m c)) (hsel : Sel (trow e size v k xs) l r) (hm : 0 < m) (hl : news.length = m * size) (hnews : ∀ w, Holds E w l → SrcIs (some ad) news w) (h1 : ∀ u ∈ news, u.oneCell' = true)
    (hmax : k + m ≤ maxLen) (hby : (k + m) * bytes ≤ 140737488355328)
    (h : ∀ v', At E n D ((i, v') :: ts) (trow e size v' (k + m) (xs ++ news) :: r) K) :
    At E n D ts l (fun a w => (Oper.mk (some i) (.call { callee := .builtin .append, args := #[s, x], argTypes := #[t, t] }) ty pos af g).wp P a w K Q) := fun a w f hw => by
  obtain ⟨ti, hti, e0, e1, e2⟩ := info_parts hel
  have hown := hw.trow hsel
  have hsel' := hw.sel hsel
  obtain ⟨v', w', hr, h2, h3, h5⟩ := run_append_tail (P := P) (w := w) t ty e ti z size bytes ht hti e0 e1 e2 hzs hsz v k xs hown ad m c news hm hl (hnews w hw ad rfl) h1 hmax hby
  have hev : (execOp a.eval (Oper.mk (some i) (.call { callee := .builtin .append, args := #[s, x], argTypes := #[t, t] }) ty pos af g)).run P w = .ok (.value v') w' := by simp [execOp, resolve, invoke, builtin, f.eval hs, f.eval hx, hr]
  show (Oper.mk (some i) (.call { callee := .builtin .append, args := #[s, x], argTypes := #[t, t] }) ty pos af g).wp P a w K Q
  unfold Oper.wp
  rw [hev]
  refine h v' _ w' (f.put i (Nat.le_of_ble_eq_true hi) v') ?_
  have hlt : ∀ k, v'.ownBlock = some k → k < w'.heap.size := fun k hk => by
    obtain ⟨_, ⟨rfl, _⟩ | ⟨g, o, cap, cur, rfl, hg, _⟩⟩ := h2
    · cases hk
    · injection hk with hk
      subst hk
      exact (Array.getElem?_eq_some_iff.1 hg).1
  refine hsel'.turn h3.os h3.tape h3.output h3.size fun F1 hp hF => ⟨fun k => v'.ownBlock = some k, fun k hk => ⟨?_, hlt k hk⟩, ⟨h2, fun k hk => hk⟩, fun k hk hnk => h3.block k hk fun hkv => hnk (hp.2 k hkv.symm)⟩
  rcases h5 with h5 | h5
  · exact .inl (hp.2 k (h5 ▸ hk))
  · rw [h5] at hk
    injection hk with hk
    subst hk
    exact .inr (Nat.le_refl _)
theorem At.formT {e : TypeId} {size m : Nat} {v : Value} {xs : List Value} {r : List HP} {K : Act → World → Prop} (s : Sel (trow e size v m xs) l r)
    (h : ∀ A c, v = .slice A m c → (A = none → m = 0 ∧ c = 0) → (∀ ad, A = some ad → ∃ g o, ad = ⟨g, o, none⟩) → m ≤ c → At E n D ts l K) : At E n D ts l K := fun a w f hw => by
  obtain ⟨hlen, hown⟩ := hw.trow s
  rcases hown with ⟨rfl, rfl⟩ | ⟨g, o, cap, cur, rfl, hg, hm, hc, hs, ht⟩
  · exact h none 0 rfl (fun _ => ⟨rfl, rfl⟩) (fun _ hx => by cases hx) (Nat.le_refl _) a w f hw
  · exact h _ cap rfl (fun hx => by cases hx) (fun ad hx => by injection hx with hx; exact ⟨g, o, hx.symm⟩) hm a w f hw
theorem trowIs {e : TypeId} {size m g o k c : Nat} {xs vs : List Value} {r : List HP} (s : Sel (trow e size (.slice (some ⟨g, o, none⟩) m c) m xs) l r) (h : ∀ j u, vs[j]? = some u → xs[k + j]? = some u) : ∀ w, Holds E w l → RowIs g (o + k) vs w := fun w hw j v hj => by
  have := (hw.trow s).cells (k + j) v (h j v hj)
  rwa [← Nat.add_assoc] at this
theorem Ent.cut1 {e : TypeId} {size m g o c : Nat} {xs : List Value} {r : List HP} : Ent (trow e size (.slice (some ⟨g, o, none⟩) (m + 1) c) (m + 1) xs :: r) (trow e size (.slice (if c = 1 then some ⟨g, o, none⟩ else (some (⟨g, o, none⟩ : Addr)).map (·.add (1 * size))) (m + 1 - 1) (c - 1)) m (xs.drop size) :: r) := fun w F ⟨F1, F2, h1, h2, hd, hp, hl⟩ => by
  refine ⟨F1, F2, h1, h2, hd, ?_, hl⟩
  obtain ⟨⟨hlen, ⟨h3, _⟩ | ⟨g', o', cap, cur, h3, hg, hm, hc, hs, ht⟩⟩, hF⟩ := hp
  · cases h3
  · injection h3 with h3 h4 h5
    injection h3 with h3
    injection h3 with h3 h6
    subst h3; subst h6; subst h5
    have hown : ∀ k, k = g → F1 k := fun k hk => by subst hk; exact hF k rfl
    have hxl : (xs.drop size).length = m * size := by rw [List.length_drop, hlen, Nat.succ_mul]; omega
    have hcap1 : (c - 1) * size = c * size - size := by rw [Nat.sub_mul, Nat.one_mul]
    by_cases h1c : c = 1
    · subst h1c
      have hm0 : m = 0 := by omega
      subst hm0
      rw [if_pos rfl]
      refine ⟨⟨hxl, .inr ⟨g, o, 0, cur, rfl, hg, Nat.le_refl _, Nat.zero_le _, by omega, ?_⟩⟩, fun k hk => hown k (by injection hk with hk; exact hk.symm)⟩
      have : xs.drop size = [] := List.eq_nil_of_length_eq_zero (by rw [hxl]; simp)
      rw [this]
      simp
    · rw [if_neg h1c]
      have hadd : (some (⟨g, o, none⟩ : Addr)).map (·.add (1 * size)) = some ⟨g, o + 1 * size, none⟩ := by
        show some (Addr.add _ _) = _
        rw [add_plain]
      rw [hadd]
      have hcs : size ≤ c * size := by
        have : 1 * size ≤ c * size := Nat.mul_le_mul_right _ (by omega)
        omega
      refine ⟨⟨hxl, .inr ⟨g, o + 1 * size, c - 1, cur, rfl, hg, by omega, by omega, by omega, ?_⟩⟩, fun k hk => hown k (by injection hk with hk; exact hk.symm)⟩
      rw [← ht, List.drop_take, List.drop_drop, Nat.one_mul]
      congr 1
      rw [Nat.succ_mul]
      omega
end
end Go.SL
