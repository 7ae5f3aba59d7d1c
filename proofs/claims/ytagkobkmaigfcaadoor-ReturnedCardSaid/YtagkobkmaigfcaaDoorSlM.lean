/- Rows opened as blocks and closed again; flows in memory that is owned. -/
import Derived.Test.YtagkobkmaigfcaaDoorSlX
import Derived.Test.YtagkobkmaigfcaaDoorCopy
namespace Go.SL
open Go Go.RowKit
section
variable {P : Program} {E : Env} {n : Nat} {D : List Deferred} {ts : List (Nat × Value)} {l : List HP}

/-- a row is nil, or a block of its own -/
theorem At.openRow {e : TypeId} {size m : Nat} {v : Value} {xs : List Value} {r : List HP} {K : Act → World → Prop} (s : Sel (row e size v m xs) l r)
    (h0 : v = .slice none 0 0 → m = 0 → xs = [] → At E n D ts r K)
    (h1 : ∀ g cap cur, v = .slice (some ⟨g, 0, none⟩) m cap → xs.length = m * size → m ≤ cap → cap ≤ maxLen → cur.size = cap * size → cur.toList.take (m * size) = xs → At E n D ts (blk g e cur :: r) K) : At E n D ts l K := fun a w f hw => by
  have h := hw.sel s
  obtain ⟨F1, F2, hF1, hF2, hd, ⟨⟨hlen, hown⟩, hF⟩, hl⟩ := h.star
  rcases hown with ⟨rfl, rfl⟩ | ⟨g, cap, cur, rfl, _, hg, hm, hc, hs, ht⟩
  · exact h0 rfl rfl (List.eq_nil_of_length_eq_zero (by simpa using hlen)) a w f ⟨hw.is, hl.mono hF2⟩
  · exact h1 g cap cur rfl hlen hm hc hs ht a w f ⟨hw.is, F1, F2, hF1, hF2, hd, ⟨hF g rfl, hg⟩, hl⟩

/-- what a row looks like -/
theorem At.formRow {e : TypeId} {size m : Nat} {v : Value} {xs : List Value} {r : List HP} {K : Act → World → Prop} (s : Sel (row e size v m xs) l r)
    (h : ∀ A c, v = .slice A m c → (A = none → m = 0 ∧ c = 0) → (∀ ad, A = some ad → ∃ g, ad = ⟨g, 0, none⟩) → m ≤ c → c ≤ maxLen → xs.length = m * size → At E n D ts l K) : At E n D ts l K := fun a w f hw => by
  obtain ⟨hlen, hown⟩ := hw.row s
  rcases hown with ⟨rfl, rfl⟩ | ⟨g, cap, cur, rfl, _, hg, hm, hc, hs, ht⟩
  · exact h none 0 rfl (fun _ => ⟨rfl, rfl⟩) (fun _ hx => by cases hx) (Nat.le_refl _) (Nat.zero_le _) hlen a w f hw
  · exact h _ cap rfl (fun hx => by cases hx) (fun ad hx => by injection hx with hx; exact ⟨g, hx.symm⟩) hm hc hlen a w f hw

theorem Ent.closeRow {e : TypeId} {size m g cap : Nat} {cur : Array Value} {xs : List Value} {r : List HP} (hm : m ≤ cap) (hc : cap ≤ maxLen) (hs : cur.size = cap * size) (ht : cur.toList.take (m * size) = xs) :
    Ent (blk g e cur :: r) (row e size (.slice (some ⟨g, 0, none⟩) m cap) m xs :: r) := fun w _ ⟨F1, F2, h1, h2, hd, hp, hl⟩ =>
  ⟨F1, F2, h1, h2, hd, ⟨⟨by rw [← ht]; simp [hs]; rw [Nat.min_eq_left hm], .inr ⟨g, cap, cur, rfl, Nat.zero_le _, hp.2, hm, hc, hs, ht⟩⟩, fun k hk => by injection hk with hk; subst hk; exact hp.1⟩, hl⟩

/-- cells of a row, read -/
theorem rowIn {e : TypeId} {size m g o c : Nat} {xs vs : List Value} {r : List HP} (s : Sel (row e size (.slice (some ⟨g, 0, none⟩) m c) m xs) l r) (h : ∀ j u, vs[j]? = some u → xs[o + j]? = some u) : ∀ w, Holds E w l → RowIs g o vs w := fun w hw j v hj => by
  have := (hw.row s).cells (g := g) rfl (o + j) v (h j v hj)
  rwa [add_plain, Nat.zero_add] at this
theorem cellIn {e : TypeId} {size m g o c : Nat} {xs : List Value} {u : Value} {r : List HP} (s : Sel (row e size (.slice (some ⟨g, 0, none⟩) m c) m xs) l r) (h : xs[o]? = some u) : ∀ w, Holds E w l → CellIs ⟨g, o, none⟩ u w := fun w hw => by
  have := (hw.row s).cells (g := g) rfl o u h
  rwa [add_plain, Nat.zero_add] at this
end

/-! several facts as one -/
theorem At.openAll {E : Env} {n : Nat} {D : List Deferred} {ts : List (Nat × Value)} {m l : List HP} {K : Act → World → Prop} (h : At E n D ts (m ++ l) K) : At E n D ts (HP.all m :: l) K := fun a w f hw => h a w f (hw.ent Ent.unall)
end Go.SL
namespace Go.Proofs.YtagkobkmaigfcaaDoor
open Go Go.RowKit Go.SL

/-- integers that are owned -/
abbrev intsAt (v : Value) (l : List Int) : HP := row 3 1 v l.length (intsV l)
/-- the lists of nodes -/
def aftsAt (vs : List Value) (l : List FK.Node) : List HP := (vs.zip l).map fun p => intsAt p.1 p.2.after
/-- nodes that are owned, with lists of their own -/
def nodesOwn (v : Value) (l : List FK.Node) : HP := HP.ex fun vs : List Value => HP.all (HP.pure (vs.length = l.length) :: row 32 7 v l.length (nodesV l vs) :: aftsAt vs l)

theorem Star.mem {w : World} {p : HP} : ∀ {l : List HP} {F : Nat → Prop}, Star w l F → p ∈ l → p.sat w F
  | [], _, _, h => by cases h
  | q :: l, F, ⟨F1, F2, h1, h2, hd, hp, hl⟩, h => by
    rcases List.mem_cons.1 h with rfl | h
    · exact p.loc h1 (fun _ _ => rfl) hp
    · exact p.loc h2 (fun _ _ => rfl) (Star.mem hl h)

theorem nodesOwn.own {E : Env} {w : World} {v : Value} {ns : List FK.Node} {l r : List HP} (s : Sel (nodesOwn v ns) l r) (hw : Holds E w l) : ∃ vs, OwnNodes w 0 v ns vs := by
  obtain ⟨F1, F2, h1, h2, hd, ⟨vs, hp⟩, hl⟩ := (hw.sel s).star
  obtain ⟨_, G2, _, _, _, hlen, _, G4, _, _, _, hrow, hafts⟩ := hp
  refine ⟨vs, hlen, hrow.1, fun i nd u hi hu => ?_⟩
  have hz : (vs.zip ns)[i]? = some (u, nd) := by simp [List.getElem?_zip_eq_some, hi, hu]
  have hm : intsAt u nd.after ∈ aftsAt vs ns := List.mem_map.2 ⟨(u, nd), List.mem_of_getElem? hz, rfl⟩
  exact (Star.mem hafts hm).1

/-- as nodes that are read -/
theorem nodesOwn.at {E : Env} {A : Option Addr} {c : Nat} {ns : List FK.Node} {l r : List HP} (s : Sel (nodesOwn (.slice A ns.length c) ns) l r) (hr : ∀ n ∈ ns, (i64 n.budget ∧ i64 n.close ∧ i64 n.beat ∧ i64 n.base ∧ i64 n.cap ∧ i64 n.jitter) ∧ ∀ x ∈ n.after, i64 x) :
    ∀ w, Holds E w l → NodesAt w w.heap.size A c ns := fun w hw => by
  obtain ⟨vs, h⟩ := nodesOwn.own s hw
  exact h.nodesAt hr

theorem nodesOwn.ent {v : Value} {ns : List FK.Node} {vs : List Value} {r : List HP} (h : vs.length = ns.length) : Ent (row 32 7 v ns.length (nodesV ns vs) :: (aftsAt vs ns ++ r)) (nodesOwn v ns :: r) := by
  have e1 : Ent (row 32 7 v ns.length (nodesV ns vs) :: (aftsAt vs ns ++ r)) ((HP.pure (vs.length = ns.length) :: row 32 7 v ns.length (nodesV ns vs) :: aftsAt vs ns) ++ r) := Ent.pure h
  exact (e1.trans Ent.all).trans (Ent.ex (f := fun vs : List Value => HP.all (HP.pure (vs.length = ns.length) :: row 32 7 v ns.length (nodesV ns vs) :: aftsAt vs ns)) vs)

theorem At.openNodes {E : Env} {n : Nat} {D : List Deferred} {ts : List (Nat × Value)} {l r : List HP} {K : Act → World → Prop} {v : Value} {ns : List FK.Node} (s : Sel (nodesOwn v ns) l r)
    (h : ∀ vs : List Value, vs.length = ns.length → At E n D ts (row 32 7 v ns.length (nodesV ns vs) :: (aftsAt vs ns ++ r)) K) : At E n D ts l K := fun a w f hw => by
  obtain ⟨F1, F2, h1, h2, hd, ⟨vs, hp⟩, hl⟩ := (hw.sel s).star
  obtain ⟨F3, F4, h3, h4, hd', hlen, hp⟩ := hp
  refine h vs hlen a w f ⟨hw.is, ?_⟩
  exact Star.join (l := row 32 7 v ns.length (nodesV ns vs) :: aftsAt vs ns) (F1 := F1) (F2 := F2) h1 h2 hd (Star.mono h4 hp) hl
end Go.Proofs.YtagkobkmaigfcaaDoor
