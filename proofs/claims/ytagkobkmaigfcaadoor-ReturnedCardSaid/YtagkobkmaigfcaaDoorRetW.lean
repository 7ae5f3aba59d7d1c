/- The walk of the law Returned. -/
import Derived.Test.YtagkobkmaigfcaaDoorRet1
import Derived.Test.YtagkobkmaigfcaaDoorSlMk
import Derived.Test.YtagkobkmaigfcaaDoorCodedW
namespace Go.Proofs.YtagkobkmaigfcaaDoor
open Go Go.RowKit Go.SL

theorem low_i64 {ns : List FK.Node} (h : FK.Low ns) (hl : ns.length ≤ 12) : ∀ nd ∈ ns, (i64 nd.budget ∧ i64 nd.close ∧ i64 nd.beat ∧ i64 nd.base ∧ i64 nd.cap ∧ i64 nd.jitter) ∧ ∀ x ∈ nd.after, i64 x := fun nd hnd => by
  obtain ⟨i, hi⟩ := List.getElem?_of_mem hnd
  have hlt := (List.getElem?_eq_some_iff.1 hi).1
  obtain ⟨h1, h2⟩ := h i nd hi
  unfold FK.NodeOk FK.span at h1
  unfold i64
  exact ⟨⟨by omega, by omega, by omega, by omega, by omega, by omega⟩, fun x hx => by have := h2.bounds x hx; omega⟩
theorem low_len {ns : List FK.Node} (h : FK.Low ns) {i : Nat} {nd : FK.Node} (hi : ns[i]? = some nd) : nd.after.length ≤ i := by
  rcases (h i nd hi).2.length_le (by omega) with h | h
  · simp at h; omega
  · simp [h]
theorem low_fits {ns : List FK.Node} (h : FK.Low ns) (hl : ns.length ≤ 12) : FlowFits ns := ⟨by omega, fun nd hnd => by
  obtain ⟨i, hi⟩ := List.getElem?_of_mem hnd
  have hlt := (List.getElem?_eq_some_iff.1 hi).1
  have := low_len h hi
  omega⟩

/-- what is known of the table of those reached, ahead of node i -/
structure Part (ns : List FK.Node) (a i : Nat) (rs : List Bool) : Prop where
  len : rs.length = ns.length
  at_ : rs[a]? = some true
  low : ∀ j, j < a → rs[j]? = some false
  high : ∀ j, i ≤ j → j ≠ a → j < ns.length → rs[j]? = some false
  step : ∀ j nd, a < j → j < i → ns[j]? = some nd → (rs[j]? = some true ↔ ∃ x ∈ nd.after, rs[x.toNat]? = some true)

theorem Part.begin {ns : List FK.Node} {a : Nat} (ha : a < ns.length) : Part ns a (a + 1) ((List.replicate ns.length false).set a true) where
  len := by simp
  at_ := by simp [ha]
  low j hj := by rw [List.getElem?_set_ne (by omega), List.getElem?_replicate, if_pos (by omega)]
  high j hj hja hl := by rw [List.getElem?_set_ne (by omega), List.getElem?_replicate, if_pos (by omega)]
  step j nd h1 h2 := by omega

theorem Part.next {ns : List FK.Node} {a i : Nat} {rs : List Bool} {nd : FK.Node} (h : Part ns a i rs) (hlow : FK.Low ns) (hai : a < i) (hn : ns[i]? = some nd) (b : Bool) (hb : b = true ↔ ∃ x ∈ nd.after, rs[x.toNat]? = some true) : Part ns a (i + 1) (rs.set i b) := by
  have hil := (List.getElem?_eq_some_iff.1 hn).1
  refine ⟨by simp [h.len], by rw [List.getElem?_set_ne (by omega)]; exact h.at_, fun j hj => by rw [List.getElem?_set_ne (by omega)]; exact h.low j hj, fun j hj hja hl => by rw [List.getElem?_set_ne (by omega)]; exact h.high j (by omega) hja hl, fun j m haj hj hm => ?_⟩
  have hset : ∀ k, k < i → (rs.set i b)[k]? = rs[k]? := fun k hk => List.getElem?_set_ne (by omega)
  have hafter : ∀ x ∈ m.after, x.toNat < i := fun x hx => by
    have := (hlow j m hm).2.bounds x hx
    omega
  have e : (∃ x ∈ m.after, (rs.set i b)[x.toNat]? = some true) ↔ ∃ x ∈ m.after, rs[x.toNat]? = some true := by
    constructor
    · rintro ⟨x, hx, hr⟩
      exact ⟨x, hx, by rwa [hset _ (hafter x hx)] at hr⟩
    · rintro ⟨x, hx, hr⟩
      exact ⟨x, hx, by rwa [hset _ (hafter x hx)]⟩
  rw [e]
  by_cases hji : j = i
  · subst hji
    rw [hn] at hm
    injection hm with hm
    subst hm
    rw [← hb]
    simp [h.len, hil]
  · rw [hset j (by omega)]
    exact h.step j m haj (by omega) hm

theorem Part.reach {ns : List FK.Node} {a : Nat} {rs : List Bool} (h : Part ns a ns.length rs) : FK.Reach ns a (fun j => rs.getD j false) where
  at_ := by simp [List.getD_eq_getElem?_getD, h.at_]
  low j hj := by simp [List.getD_eq_getElem?_getD, h.low j hj]
  dom j hj hn := by
    have h1 : ns.length ≤ j := List.getElem?_eq_none_iff.1 hn
    simp only [List.getD_eq_getElem?_getD] at hj
    rw [List.getElem?_eq_none (by rw [h.len]; exact h1)] at hj
    simp at hj
  step j nd haj hn := by
    have := h.step j nd haj (List.getElem?_eq_some_iff.1 hn).1 hn
    have e : ∀ k, (rs.getD k false = true) ↔ rs[k]? = some true := fun k => by
      rw [List.getD_eq_getElem?_getD]
      cases rs[k]? with
      | none => simp
      | some b => simp
    simp only [e]
    exact this

def boolA (rs : List Bool) : Array Value := (rs.map Value.bool).toArray
theorem boolA_at {rs : List Bool} {j : Nat} {b : Bool} (h : rs[j]? = some b) : (boolA rs)[j]? = some (.bool b) := by simp [boolA, h]
theorem boolA_set (rs : List Bool) (j : Nat) (b : Bool) : (boolA rs).setIfInBounds j (.bool b) = boolA (rs.set j b) := by simp [boolA, List.map_set]
theorem boolA_new (n : Nat) : (List.replicate n (Value.bool false)).toArray = boolA (List.replicate n false) := by simp [boolA]
theorem boolA_size (rs : List Bool) : (boolA rs).size = rs.length := by simp [boolA]

theorem ret_set {v : Value} {vs : List Value} {ns : List FK.Node} {a : Nat} {u' : Value} {nd : FK.Node} {l : List Int} {fr : List HP} (h : vs.length = ns.length) (hn : ns[a]? = some nd) :
    Ent (row 32 7 v ns.length ((nodesV ns vs).set (a * 7 + 6) u') :: intsAt u' l :: (aftsAt vs ns ++ fr)) (nodesOwn v (ns.set a { nd with after := l }) :: fr) := by
  rw [nodesV_set ns vs a nd u' l h hn]
  have ha := (List.getElem?_eq_some_iff.1 hn).1
  have e1 : Ent (intsAt u' l :: (aftsAt vs ns ++ fr)) (aftsAt (vs.set a u') (ns.set a { nd with after := l }) ++ fr) := by
    rw [aftsAt_set vs ns a u' { nd with after := l } (by omega)]
    exact (Ent.set (aftsAt vs ns) a (intsAt u' l)).append fr
  refine (Ent.cons e1).trans ?_
  have := nodesOwn.ent (v := v) (ns := ns.set a { nd with after := l }) (vs := vs.set a u') (r := fr) (by simp [h])
  rwa [List.length_set] at this

theorem okto_i64 {f : FK.Flow} (h : FK.OkTo f f.nodes.length) (hl : f.nodes.length ≤ 12) : ∀ nd ∈ f.nodes, (i64 nd.budget ∧ i64 nd.close ∧ i64 nd.beat ∧ i64 nd.base ∧ i64 nd.cap ∧ i64 nd.jitter) ∧ ∀ x ∈ nd.after, i64 x := fun nd hnd => by
  obtain ⟨i, hi⟩ := List.getElem?_of_mem hnd
  obtain ⟨h1, h2⟩ := h i nd (List.getElem?_eq_some_iff.1 hi).1 hi
  unfold FK.NodeOk FK.span at h1
  unfold i64
  exact ⟨⟨by omega, by omega, by omega, by omega, by omega, by omega⟩, fun x hx => by have := h2.bounds x hx; omega⟩
theorem okto_fits {f : FK.Flow} (h : FK.OkTo f f.nodes.length) (hl : f.nodes.length ≤ 12) : FlowFits f.nodes := ⟨by omega, fun nd hnd => by
  obtain ⟨i, hi⟩ := List.getElem?_of_mem hnd
  have h2 := (h i nd (List.getElem?_eq_some_iff.1 hi).1 hi).2
  rcases h2.length_le (by omega) with h | h
  · simp at h; omega
  · simp [h]⟩
theorem getD_true {rs : List Bool} {j : Nat} (h : rs.getD j false = true) : rs[j]? = some true := by
  rw [List.getD_eq_getElem?_getD] at h
  cases hr : rs[j]? with
  | none => rw [hr] at h; simp at h
  | some b => rw [hr] at h; simp at h; rw [h]
theorem getD_false {rs : List Bool} {j : Nat} (hl : j < rs.length) (h : rs.getD j false = false) : rs[j]? = some false := by
  rw [List.getD_eq_getElem?_getD] at h
  rw [List.getElem?_eq_getElem hl] at h ⊢
  simpa using h

theorem encFlow_nine {d : Int} {ns : List FK.Node} (h : 1 ≤ ns.length) : 9 ≤ (FK.encFlow ⟨d, ns⟩).length := by
  cases ns with
  | nil => simp at h
  | cons nd ns =>
    have h1 := FK.encN_pos d.toNat
    have h2 := FK.encN_pos (nd :: ns).length
    have a0 := FK.encN_pos nd.budget.toNat
    have a1 := FK.encN_pos nd.close.toNat
    have a2 := FK.encN_pos nd.beat.toNat
    have a3 := FK.encN_pos nd.base.toNat
    have a4 := FK.encN_pos nd.cap.toNat
    have a5 := FK.encN_pos nd.jitter.toNat
    have a6 := FK.encN_pos nd.after.length
    simp only [FK.encFlow, FK.encNode, List.flatMap_cons, List.length_append]
    omega

theorem ret_open {ro b13 o x1 x2 x3 x4 : HP} {afts : List HP} : Ent (ro :: (afts ++ (x1 :: x2 :: x3 :: x4 :: b13 :: [o]))) (b13 :: ro :: o :: afts) := by
  refine (Ent.cons (Ent.perm (List.perm_append_comm (l₁ := afts) (l₂ := x1 :: x2 :: x3 :: x4 :: b13 :: [o])))).trans ?_
  exact (Ent.cons (Ent.drop.trans (Ent.drop.trans (Ent.drop.trans Ent.drop)))).trans (Ent.perm (List.Perm.swap _ _ _))
theorem ret_close {v : Value} {vs : List Value} {ns : List FK.Node} {a : Nat} {u' : Value} {nd : FK.Node} {l : List Int} {b170 b99 b13 o : HP} (h : vs.length = ns.length) (hn : ns[a]? = some nd) :
    Ent (row 32 7 v ns.length ((nodesV ns vs).set (0 + a * 7 + 6) u') :: intsAt u' l :: b170 :: b99 :: b13 :: o :: aftsAt vs ns) (nodesOwn v (ns.set a { nd with after := l }) :: b99 :: b13 :: [o]) := by
  rw [Nat.zero_add]
  refine (Ent.cons (Ent.cons (Ent.drop.trans (Ent.perm (List.perm_append_comm (l₁ := b99 :: b13 :: [o]) (l₂ := aftsAt vs ns)))))).trans ?_
  exact ret_set h hn

theorem ret_back {v : Value} {vs : List Value} {ns : List FK.Node} {a z : Nat} {u' : Value} {nd : FK.Node} {b170 b99 b13 o : HP} (h : vs.length = ns.length) (hn : ns[a]? = some nd) :
    Ent (row 32 7 v ns.length ((nodesV ns vs).set (0 + a * 7 + 6) u') :: intsAt u' (nd.after ++ [(z : Int)]) :: b170 :: b99 :: b13 :: o :: aftsAt vs ns) (nodesOwn v (FK.back ns a z nd) :: b99 :: b13 :: [o]) := ret_close h hn

theorem reach_more {rs : List Bool} {l : List Int} {b e : Bool} {k yn : Nat} (hb : b = true ↔ ∃ y ∈ l.take k, rs[y.toNat]? = some true) (hy : l[k]? = some (yn : Int)) (he : rs[yn]? = some e) : (b || e) = true ↔ ∃ y ∈ l.take (k + 1), rs[y.toNat]? = some true := by
  rw [take_more hy]
  constructor
  · intro h
    rcases Bool.or_eq_true_iff.1 h with h | h
    · obtain ⟨z, hz1, hz2⟩ := hb.1 h
      exact ⟨z, List.mem_append_left _ hz1, hz2⟩
    · exact ⟨(yn : Int), by simp, by rw [Int.toNat_natCast, he, h]⟩
  · rintro ⟨z, hz1, hz2⟩
    rcases List.mem_append.1 hz1 with h | h
    · simp [hb.2 ⟨z, h, hz2⟩]
    · simp at h
      subst h
      rw [Int.toNat_natCast, he] at hz2
      injection hz2 with hz2
      simp [hz2]

theorem set_same {rs : List Bool} {i : Nat} {b : Bool} (h : rs[i]? = some b) : rs.set i b = rs := by
  apply List.ext_getElem?
  intro j
  by_cases hj : i = j
  · subst hj
    rw [h]
    have := (List.getElem?_eq_some_iff.1 h).1
    simp [this]
  · rw [List.getElem?_set_ne hj]

set_option maxRecDepth 10000 in
set_option maxHeartbeats 10000000 in
theorem returned_gives (nodes deadline frm upto : Int) (hnodes : i64 nodes) (hdl : i64 deadline) (hfrom : i64 frm) (hto : i64 upto) (A1 A2 : Option Addr) (c1 c2 : Nat) (bits numbers : List Int) :
    Gives Tryd.prog Good 5 [.int .i64 nodes, .slice A1 bits.length c1, .slice A2 numbers.length c2, .int .i64 deadline, .int .i64 frm, .int .i64 upto].toArray (fun w => IntsAt w w.heap.size A1 c1 bits ∧ IntsAt w w.heap.size A2 c2 numbers)
      fun v m => v = .bool true ∧ m = [] := by
  refine Gives.body Tryd.func5 rfl rfl fun E w0 hE h0 hN => ?_
  refine At.seq ?_
  refine At.region ?_
  refine L.as rfl rfl ?_
  refine L.nil ?_
  refine At.then ?_
  refine At.seq ?_
  refine At.region ?_
  refine L.mv rfl rfl ?_
  refine L.mv rfl rfl ?_
  refine L.mv rfl rfl ?_
  refine L.mv rfl rfl ?_
  refine L.op rfl (o_give rfl rfl rfl hE (keep_flow nodes deadline hnodes hdl A1 A2 c1 c2 bits numbers) (fun w hw => ⟨intsLater .head h0 hN.1 (Nat.le_refl _) w hw, intsLater .head h0 hN.2 (Nat.le_refl _) w hw⟩) ?_)
  rintro v m ⟨dl, ns, A', c', hdl', hn1, hn12, hlow, rfl, rfl⟩
  refine At.app1 ?_
  have hfit := hlow.fit (d := dl) hdl' hn1 hn12
  have hchk : (FK.chk ⟨dl, ns⟩).1 = 0 := by rw [hfit.chk]
  have hpos := encFlow_pos ⟨dl, ns⟩
  have hle := encFlow_le hfit
  have h9 : 9 ≤ (FK.encFlow ⟨dl, ns⟩).length := encFlow_nine hn1
  have hi64 := low_i64 hlow hn12
  have hff := low_fits hlow hn12
  refine L.op rfl (o_alloc (z := .agg #[.int .i64 0, .slice none 0 0]) rfl rfl fun b13 => ?_)
  refine L.op rfl (o_storeN rfl (m := 2) (vs := [.int .i64 dl, .slice A' ns.length c']) rfl rfl rfl rfl (by simp [Value.oneCell']) (by simp [Value.cells]) ?_)
  refine L.nil ?_
  refine At.then ?_
  refine At.seq ?_
  refine At.region ?_
  refine L.val rfl (ev_loadN (vs := [.int .i64 dl, .slice A' ns.length c']) rfl rfl rfl rfl) (rowAll rfl) ?_
  refine L.op rfl (o_give rfl rfl rfl hE (plain_encode dl ns A' c' hff) (nodesOwn.at (.tail (.head)) hi64) ?_)
  rintro v m hv
  obtain ⟨bv, rfl, rfl⟩ := hv.ok hchk
  refine At.app1 ?_
  refine At.formRow .head ?_
  rintro A3 c3 rfl hn3 hf3 hc31 hc32 _
  obtain ⟨g3, rfl⟩ : ∃ g, A3 = some ⟨g, 0, none⟩ := by
    cases A3 with
    | none => have := (hn3 rfl).1; omega
    | some ad => obtain ⟨g, rfl⟩ := hf3 ad rfl; exact ⟨g, rfl⟩
  refine L.mv rfl rfl ?_
  refine L.ex rfl rfl rfl ?_
  refine L.ex rfl rfl rfl ?_
  refine L.ex rfl rfl rfl ?_
  refine L.as rfl rfl ?_
  refine L.as rfl rfl ?_
  refine L.as rfl rfl ?_
  refine L.nil ?_
  refine At.then ?_
  refine At.seq ?_
  refine At.region ?_
  refine L.mv rfl rfl ?_
  refine L.op rfl (o_call rfl rfl rfl hE (plain_decode (c := c3) (Reads.row fun _ => ⟨g3, rfl⟩) (by omega)) (Ent.refl _) ?_)
  rintro v m hv2
  obtain ⟨A4, c4, hsm, rfl, rfl⟩ := hv2.ok (FK.dec_enc hfit)
  refine At.app2 ?_
  simp only at hsm ⊢
  refine L.mv rfl rfl ?_
  refine L.ex rfl rfl rfl ?_
  refine L.ex rfl rfl rfl ?_
  refine L.ex rfl rfl rfl ?_
  refine L.op rfl (o_alloc (z := .agg #[.int .i64 0, .slice none 0 0]) rfl rfl fun b17 => ?_)
  refine L.op rfl (o_storeN rfl (m := 2) (vs := [.int .i64 dl, .slice A4 ns.length c4]) rfl rfl rfl rfl (by simp [Value.oneCell']) (by simp [Value.cells]) ?_)
  refine L.as rfl rfl ?_
  refine L.as rfl rfl ?_
  refine L.nil ?_
  refine At.then ?_
  refine At.seq ?_
  refine At.region ?_
  refine L.val rfl (ev_loadN (vs := [.int .i64 dl, .slice A4 ns.length c4]) rfl rfl rfl rfl) (rowAll rfl) ?_
  refine L.op rfl (o_give rfl rfl rfl hE (plain_encode dl ns A4 c4 hff) (nodesOwn.at (.tail (.head)) hi64) ?_)
  rintro v m hv3
  obtain ⟨bv, rfl, rfl⟩ := hv3.ok hchk
  refine At.app1 ?_
  refine At.formRow .head ?_
  rintro A5 c5 rfl hn5 hf5 _ _ _
  obtain ⟨g5, rfl⟩ : ∃ g, A5 = some ⟨g, 0, none⟩ := by
    cases A5 with
    | none => have := (hn5 rfl).1; omega
    | some ad => obtain ⟨g, rfl⟩ := hf5 ad rfl; exact ⟨g, rfl⟩
  refine L.mv rfl rfl ?_
  refine L.ex rfl rfl rfl ?_
  refine L.ex rfl rfl rfl ?_
  refine L.ex rfl rfl rfl ?_
  refine L.as rfl rfl ?_
  refine L.as rfl rfl ?_
  refine L.as rfl rfl ?_
  refine L.nil ?_
  refine At.then ?_
  refine At.seq ?_
  refine At.seq ?_
  refine At.region ?_
  refine L.mv rfl rfl ?_
  refine L.pure rfl (ev_neq (r := false) rfl rfl (by simp)) ?_
  refine L.mv rfl rfl ?_
  refine L.on rfl rfl rfl (L.vala rfl (ev_move rfl) (fun _ _ => trivial) ?_)
  refine L.on rfl rfl rfl (L.vala rfl (ev_neq (r := false) rfl rfl (by simp)) (fun _ _ => trivial) ?_)
  refine L.pure rfl (ev_pick rfl rfl rfl) ?_
  refine L.mv rfl rfl ?_
  refine L.on rfl rfl rfl (L.vala rfl (ev_move rfl) (fun _ _ => trivial) ?_)
  refine L.on rfl rfl rfl (L.vala rfl (ev_neq (r := false) rfl rfl (by simp)) (fun _ _ => trivial) ?_)
  refine L.pure rfl (ev_pick rfl rfl rfl) ?_
  refine L.mv rfl rfl ?_
  refine L.on rfl rfl rfl (L.vala rfl (ev_move rfl) (fun _ _ => trivial) ?_)
  refine L.on rfl rfl rfl (L.vala rfl (ev_lenS rfl rfl) (fun _ _ => trivial) ?_)
  refine L.on rfl rfl rfl (L.vala rfl (ev_lss (r := false) rfl rfl (by rw [decide_eq_false_iff_not]; omega)) (fun _ _ => trivial) ?_)
  refine L.pure rfl (ev_pick rfl rfl rfl) ?_
  refine L.mv rfl rfl ?_
  refine L.on rfl rfl rfl (L.vala rfl (ev_move rfl) (fun _ _ => trivial) ?_)
  refine L.on rfl rfl rfl (L.vala rfl (ev_text rfl rfl rfl (fun ad h => by injection h with h; exact ⟨g3, 0, h.symm⟩) rfl) (bytesIs_row (.tail (.tail (.tail (.head))))) ?_)
  refine L.on rfl rfl rfl (L.vala rfl (ev_move rfl) (fun _ _ => trivial) ?_)
  refine L.on rfl rfl rfl (L.vala rfl (ev_text rfl rfl rfl (fun ad h => by injection h with h; exact ⟨g5, 0, h.symm⟩) rfl) (bytesIs_row .head) ?_)
  refine L.on rfl rfl rfl (L.vala rfl (ev_neqStr (r := false) rfl rfl rfl (by simp)) (fun _ _ => trivial) ?_)
  refine L.pure rfl (ev_pick rfl rfl rfl) ?_
  refine L.mv rfl rfl ?_
  refine L.on rfl rfl rfl (L.vala rfl (ev_field (off := 1) rfl rfl) (fun _ _ => trivial) ?_)
  refine L.on rfl rfl rfl (L.vala rfl (ev_load1 rfl rfl) (cellIs rfl) ?_)
  refine L.on rfl rfl rfl (L.vala rfl (ev_lenS rfl rfl) (fun _ _ => trivial) ?_)
  refine L.on rfl rfl rfl (L.vala rfl (ev_field (off := 1) rfl rfl) (fun _ _ => trivial) ?_)
  refine L.on rfl rfl rfl (L.vala rfl (ev_load1 rfl rfl) (cellIs rfl) ?_)
  refine L.on rfl rfl rfl (L.vala rfl (ev_lenS rfl rfl) (fun _ _ => trivial) ?_)
  refine L.on rfl rfl rfl (L.vala rfl (ev_neq (r := false) rfl rfl (by simp)) (fun _ _ => trivial) ?_)
  refine L.pure rfl (ev_pick rfl rfl rfl) ?_
  refine L.nil ?_
  refine At.then ?_
  refine At.condF rfl ?_
  refine At.skip ?_
  refine At.then ?_
  refine At.seq ?_
  refine At.region ?_
  refine L.fa 1 rfl rfl rfl ?_
  refine L.ld rfl rfl rfl rfl ?_
  refine L.pure rfl (ev_lenS rfl rfl) ?_
  refine L.as rfl rfl ?_
  refine L.nil ?_
  refine At.then ?_
  refine At.seq ?_
  refine At.region ?_
  refine L.mv rfl rfl ?_
  refine L.mv rfl rfl ?_
  refine L.op rfl (o_call rfl rfl rfl hE (keep_pick frm ns.length hfrom (by omega) (by omega)) (Ent.refl _) ?_)
  rintro v m ⟨ai, rfl, ⟨ha0, ha1⟩, rfl⟩
  refine At.app0 ?_
  obtain ⟨a, rfl⟩ : ∃ a : Nat, ai = a := ⟨ai.toNat, by omega⟩
  refine L.as rfl rfl ?_
  refine L.nil ?_
  refine At.then ?_
  refine At.seq ?_
  refine At.region ?_
  refine L.mv rfl rfl ?_
  refine L.mv rfl rfl ?_
  refine L.mv rfl rfl ?_
  refine L.mv rfl rfl ?_
  refine L.pure rfl (ev_sub (r := ((ns.length - a : Nat) : Int)) rfl rfl (by rw [w64 (by omega)]; omega)) ?_
  refine L.op rfl (o_call rfl rfl rfl hE (keep_pick upto (ns.length - a) hto (by omega) (by omega)) (Ent.refl _) ?_)
  rintro v m ⟨zi, rfl, ⟨hz0, hz1⟩, rfl⟩
  refine At.app0 ?_
  obtain ⟨d, rfl⟩ : ∃ d : Nat, zi = d := ⟨zi.toNat, by omega⟩
  refine L.pure rfl (ev_add (r := ((a + d : Nat) : Int)) rfl rfl (by rw [w64 (by omega)]; omega)) ?_
  refine L.as rfl rfl ?_
  refine L.nil ?_
  refine At.then ?_
  refine At.seq ?_
  refine At.openNodes (.tail (.tail (.tail (.tail (.tail (.head)))))) ?_
  intro vs hvs
  refine At.formRow .head ?_
  intro A7 c7 hA7 hn7 hf7 hc71 hc72 hlen7
  injection hA7 with hA7 _ hc7
  subst hA7; subst hc7
  obtain ⟨gf, rfl⟩ : ∃ g, A' = some ⟨g, 0, none⟩ := by
    cases A' with
    | none => have := (hn7 rfl).1; omega
    | some ad => obtain ⟨g, rfl⟩ := hf7 ad rfl; exact ⟨g, rfl⟩
  refine At.region ?_
  refine L.mv rfl rfl ?_
  refine At.ent ret_open ?_
  have hlt : a < ns.length := by omega
  refine L.op rfl (o_make rfl rfl infoBool rfl rfl (by omega) (by omega) fun b99 => ?_)
  rw [boolA_new]
  refine L.as rfl rfl ?_
  refine L.nil ?_
  refine At.then ?_
  refine At.seq ?_
  refine At.region ?_
  refine L.mv rfl rfl ?_
  refine L.mv rfl rfl ?_
  refine L.pure rfl (ev_ixN (z := 1) rfl rfl rfl rfl hlt) ?_
  refine L.st rfl rfl rfl rfl (by rw [boolA_size]; simp; omega) ?_
  rw [show 0 + a * 1 = a by omega, boolA_set]
  have hzn : a + d < ns.length := by omega
  obtain ⟨nda, hnda⟩ : ∃ nd, ns[a]? = some nd := ⟨ns[a], by simp [hlt]⟩
  obtain ⟨ua, hua⟩ : ∃ u, vs[a]? = some u := ⟨vs[a]'(by omega), by simp⟩
  obtain ⟨ra, hsa⟩ := Sel.of_mem (afts_mem hua hnda)
  refine At.formRow (.tail (.tail (.tail (.tail hsa)))) ?_
  rintro Aa ca rfl hna hfa ha61 ha62 _
  have hac : ca ≤ 9223372036854775807 := by unfold maxLen at ha62; omega
  have hfc : c' ≤ 9223372036854775807 := by unfold maxLen at hc72; omega
  have hal := low_len hlow hnda
  refine L.nil ?_
  refine At.then ?_
  refine At.seq ?_
  refine At.seq ?_
  refine At.region ?_
  refine L.mv rfl rfl ?_
  refine L.pure rfl (ev_add rfl rfl (w64 (by omega))) ?_
  refine L.as rfl rfl ?_
  refine L.nil ?_
  refine At.then ?_
  refine At.block ?_
  refine At.loop (X := Nat × List Bool) (fun x => [(27, .int .i64 x.1), (26, .slice (some ⟨b99, 0, none⟩) ns.length ns.length), (25, .int .i64 (a + d : Nat)), (24, .int .i64 a), (23, .int .i64 ns.length), (13, .pointer (some ⟨b13, 0, none⟩))]) (fun x => blk b99 4 (boolA x.2) :: blk b13 24 #[.int .i64 dl, .slice (some ⟨gf, 0, none⟩) ns.length c'] :: row 32 7 (.slice (some ⟨gf, 0, none⟩) ns.length c') ns.length (nodesV ns vs) :: old E w0 :: aftsAt vs ns) (fun x => a < x.1 ∧ x.1 ≤ ns.length ∧ Part ns a x.1 x.2) (fun x => ns.length - x.1) (a + 1, (List.replicate ns.length false).set a true) ⟨by simp, by simp only; omega, Part.begin hlt⟩ ⟨rfl, rfl, rfl, rfl, rfl, rfl, trivial⟩ (Ent.refl _) ?_
  rintro ⟨i, rs⟩ ⟨hai, hin, hpart⟩
  simp only at hai hin hpart ⊢
  refine At.seq ?_
  refine At.seq ?_
  refine At.region ?_
  refine L.mv rfl rfl ?_
  refine L.mv rfl rfl ?_
  refine L.pure rfl (ev_lss rfl rfl rfl) ?_
  refine L.nil ?_
  refine At.then ?_
  refine At.condD rfl (fun c107 => ?_) (fun c107 => ?_)
  ·
    have hli : i < ns.length := by omega
    obtain ⟨nd, hnd⟩ : ∃ nd, ns[i]? = some nd := ⟨ns[i], by simp [hli]⟩
    obtain ⟨u, hu⟩ : ∃ u, vs[i]? = some u := ⟨vs[i]'(by omega), by simp⟩
    obtain ⟨r6, hs6⟩ := Sel.of_mem (afts_mem hu hnd)
    refine At.formRow (.tail (.tail (.tail (.tail hs6)))) ?_
    rintro A6 c6 rfl hn6 hf6 h61 h62 _
    have h6c : c6 ≤ 9223372036854775807 := by unfold maxLen at h62; omega
    have hri := hpart.high i (Nat.le_refl _) (by omega) hli
    have hl6 := low_len hlow hnd
    refine At.skip ?_
    refine At.then ?_
    refine At.seq ?_
    refine At.block ?_
    refine At.seq ?_
    refine At.region ?_
    refine L.as rfl rfl ?_
    refine L.nil ?_
    refine At.then ?_
    refine At.block ?_
    refine At.loop (X := Nat × Bool) (fun x => [(28, .int .i64 x.1), (27, .int .i64 i), (26, .slice (some ⟨b99, 0, none⟩) ns.length ns.length), (25, .int .i64 (a + d : Nat)), (24, .int .i64 a), (23, .int .i64 ns.length), (13, .pointer (some ⟨b13, 0, none⟩))]) (fun x => blk b99 4 (boolA (rs.set i x.2)) :: blk b13 24 #[.int .i64 dl, .slice (some ⟨gf, 0, none⟩) ns.length c'] :: row 32 7 (.slice (some ⟨gf, 0, none⟩) ns.length c') ns.length (nodesV ns vs) :: old E w0 :: aftsAt vs ns) (fun x => x.1 ≤ nd.after.length ∧ (x.2 = true ↔ ∃ y ∈ nd.after.take x.1, rs[y.toNat]? = some true)) (fun x => nd.after.length - x.1) (0, false) ⟨by simp, by simp⟩ ⟨rfl, rfl, rfl, rfl, rfl, rfl, rfl, trivial⟩ (by simp only; rw [set_same hri]; exact Ent.refl _) ?_
    rintro ⟨k, b⟩ ⟨hk, hb⟩
    simp only at hk hb ⊢
    refine At.seq ?_
    refine At.seq ?_
    refine At.region ?_
    refine L.mv rfl rfl ?_
    refine L.fa 1 rfl rfl rfl ?_
    refine L.ld rfl rfl rfl rfl ?_
    refine L.mv rfl rfl ?_
    refine L.pure rfl (ev_ixN (z := 7) rfl rfl rfl rfl hli) ?_
    refine L.fa 6 rfl rfl rfl ?_
    refine L.val rfl (ev_load1 (v := .slice A6 nd.after.length c6) rfl rfl) (cellIn (.tail (.tail (.head))) (by rw [Nat.zero_add, nodesV_at ns vs i 6 nd _ hvs hnd hu (by omega)]; rfl)) ?_
    refine L.pure rfl (ev_lenS rfl rfl) ?_
    refine L.pure rfl (ev_lss rfl rfl rfl) ?_
    refine L.nil ?_
    refine At.then ?_
    refine At.condD rfl (fun c118 => ?_) (fun c118 => ?_)
    ·
      have hkl : k < nd.after.length := by omega
      obtain ⟨g6, rfl⟩ : ∃ g, A6 = some ⟨g, 0, none⟩ := by
        cases A6 with
        | none => have := (hn6 rfl).1; omega
        | some ad => obtain ⟨g, rfl⟩ := hf6 ad rfl; exact ⟨g, rfl⟩
      obtain ⟨y, hy⟩ : ∃ y, nd.after[k]? = some y := ⟨nd.after[k], by simp [hkl]⟩
      have hyb := (hlow i nd hnd).2.bounds y (List.mem_of_getElem? hy)
      obtain ⟨yn, rfl⟩ : ∃ n : Nat, y = n := ⟨y.toNat, by omega⟩
      have hyi : yn < i := by omega
      obtain ⟨e, he⟩ : ∃ e, rs[yn]? = some e := ⟨rs[yn]'(by rw [hpart.len]; omega), by simp⟩
      refine At.skip ?_
      refine At.then ?_
      refine At.seq ?_
      refine At.block ?_
      refine At.region ?_
      refine L.mv rfl rfl ?_
      refine L.mv rfl rfl ?_
      refine L.mv rfl rfl ?_
      refine L.mv rfl rfl ?_
      refine L.pure rfl (ev_ixN (z := 1) rfl rfl rfl rfl hli) ?_
      refine L.bool rfl (ev_load1 (v := .bool b) rfl rfl) (cellIs (by rw [show 0 + i * 1 = i by omega]; exact boolA_at (by simp [hpart.len, hli]))) fun c126 e126 => ?_
      refine L.mv rfl rfl ?_
      refine L.abs c126 (by rfl) ?_
      refine L.g rfl rfl (fun _ => rfl) (ev_move rfl) (fun _ _ => trivial) ?_
      refine L.abs c126 (by rfl) ?_
      refine L.g rfl rfl (fun _ => rfl) (ev_field (off := 1) rfl rfl) (fun _ _ => trivial) ?_
      refine L.abs c126 (by rfl) ?_
      refine L.g rfl rfl (fun _ => rfl) (ev_load1 rfl rfl) (cellIs rfl) ?_
      refine L.abs c126 (by rfl) ?_
      refine L.g rfl rfl (fun _ => rfl) (ev_move rfl) (fun _ _ => trivial) ?_
      refine L.abs c126 (by rfl) ?_
      refine L.g rfl rfl (fun _ => rfl) (ev_ixN (z := 7) rfl rfl rfl rfl hli) (fun _ _ => trivial) ?_
      refine L.abs c126 (by rfl) ?_
      refine L.g rfl rfl (fun _ => rfl) (ev_field (off := 6) rfl rfl) (fun _ _ => trivial) ?_
      refine L.abs c126 (by rfl) ?_
      refine L.g rfl rfl (fun _ => rfl) (ev_load1 (v := .slice (some ⟨g6, 0, none⟩) nd.after.length c6) rfl rfl) (cellIn (.tail (.tail (.head))) (by rw [Nat.zero_add, nodesV_at ns vs i 6 nd _ hvs hnd hu (by omega)]; rfl)) ?_
      refine L.abs c126 (by rfl) ?_
      refine L.g rfl rfl (fun _ => rfl) (ev_move rfl) (fun _ _ => trivial) ?_
      refine L.abs c126 (by rfl) ?_
      refine L.g rfl rfl (fun _ => rfl) (ev_ixN (z := 1) rfl rfl rfl rfl hkl) (fun _ _ => trivial) ?_
      refine L.abs c126 (by rfl) ?_
      refine L.g rfl rfl (fun _ => rfl) (ev_load1 (v := .int .i64 yn) rfl rfl) (cellIn (.tail (.tail (.tail (.tail hs6)))) (by simp [intsV, hy])) ?_
      refine L.abs c126 (by rfl) ?_
      refine L.g rfl rfl (fun _ => rfl) (ev_ixN (z := 1) rfl rfl rfl rfl (by omega : yn < ns.length)) (fun _ _ => trivial) ?_
      refine L.abs c126 (by rfl) ?_
      refine L.g rfl rfl (fun _ => rfl) (ev_load1 (v := .bool e) rfl rfl) (cellIs (by rw [show 0 + yn * 1 = yn by omega]; exact boolA_at (by rw [List.getElem?_set_ne (by omega)]; exact he))) ?_
      refine L.bool rfl (ev_pickOr rfl rfl rfl) (fun _ _ => trivial) fun c140 e140 => ?_
      refine L.pure rfl (ev_ixN (z := 1) rfl rfl rfl rfl hli) ?_
      refine L.st rfl rfl rfl rfl (by rw [boolA_size]; simp [hpart.len]; omega) ?_
      rw [show 0 + i * 1 = i by omega, boolA_set, List.set_set]
      refine L.nil ?_
      refine At.inBlock (At.then ?_)
      refine At.region ?_
      refine L.mv rfl rfl ?_
      refine L.pure rfl (ev_add rfl rfl (w64 (by omega))) ?_
      refine L.as rfl rfl ?_
      refine L.nil ?_
      exact At.round (k + 1, c140) ⟨by simp only; omega, by simp only; rw [e140, e126]; exact reach_more hb hy he⟩ (by simp only; omega) ⟨rfl, rfl, rfl, rfl, rfl, rfl, rfl, trivial⟩ (Ent.refl _)
    ·
      have hke : k = nd.after.length := by omega
      rw [hke, List.take_length] at hb
      refine At.exit ?_
      refine At.thenExit (At.roundExit (At.inBlockHit (At.inBlock (At.then ?_))))
      refine At.region ?_
      refine L.mv rfl rfl ?_
      refine L.pure rfl (ev_add rfl rfl (w64 (by omega))) ?_
      refine L.as rfl rfl ?_
      refine L.nil ?_
      exact At.round (i + 1, rs.set i b) ⟨by simp only; omega, by simp only; omega, hpart.next hlow hai hnd b hb⟩ (by simp only; omega) ⟨rfl, rfl, rfl, rfl, rfl, rfl, trivial⟩ (Ent.refl _)
  ·
    obtain rfl : i = ns.length := by omega
    refine At.exit ?_
    refine At.thenExit (At.roundExit (At.inBlockHit (At.then ?_)))
    refine At.seq ?_
    refine At.region ?_
    refine L.as rfl rfl ?_
    refine L.nil ?_
    refine At.then ?_
    refine At.seq ?_
    refine At.seq ?_
    refine At.region ?_
    refine L.as rfl rfl ?_
    refine L.nil ?_
    refine At.then ?_
    refine At.block ?_
    refine At.loop (X := Nat × Value) (fun x => [(30, .int .i64 x.1), (29, x.2), (26, .slice (some ⟨b99, 0, none⟩) ns.length ns.length), (25, .int .i64 (a + d : Nat)), (24, .int .i64 a), (13, .pointer (some ⟨b13, 0, none⟩))]) (fun x => intsAt x.2 (nda.after.take x.1) :: blk b99 4 (boolA rs) :: blk b13 24 #[.int .i64 dl, .slice (some ⟨gf, 0, none⟩) ns.length c'] :: row 32 7 (.slice (some ⟨gf, 0, none⟩) ns.length c') ns.length (nodesV ns vs) :: old E w0 :: aftsAt vs ns) (fun x => x.1 ≤ nda.after.length) (fun x => nda.after.length - x.1) (0, .slice none 0 0) (by simp) ⟨rfl, rfl, rfl, rfl, rfl, rfl, trivial⟩ Ent.row0 ?_
    rintro ⟨k, v29⟩ hk
    simp only at hk ⊢
    refine At.seq ?_
    refine At.seq ?_
    refine At.region ?_
    refine L.mv rfl rfl ?_
    refine L.fa 1 rfl rfl rfl ?_
    refine L.ld rfl rfl rfl rfl ?_
    refine L.mv rfl rfl ?_
    refine L.pure rfl (ev_ixN (z := 7) rfl rfl rfl rfl hlt) ?_
    refine L.fa 6 rfl rfl rfl ?_
    refine L.val rfl (ev_load1 (v := .slice Aa nda.after.length ca) rfl rfl) (cellIn (.tail (.tail (.tail (.head)))) (by rw [Nat.zero_add, nodesV_at ns vs a 6 nda _ hvs hnda hua (by omega)]; rfl)) ?_
    refine L.pure rfl (ev_lenS rfl rfl) ?_
    refine L.pure rfl (ev_lss rfl rfl rfl) ?_
    refine L.nil ?_
    refine At.then ?_
    refine At.condD rfl (fun c150 => ?_) (fun c150 => ?_)
    ·
      have hkl : k < nda.after.length := by omega
      obtain ⟨ga, rfl⟩ : ∃ g, Aa = some ⟨g, 0, none⟩ := by
        cases Aa with
        | none => have := (hna rfl).1; omega
        | some ad => obtain ⟨g, rfl⟩ := hfa ad rfl; exact ⟨g, rfl⟩
      obtain ⟨y, hy⟩ : ∃ y, nda.after[k]? = some y := ⟨nda.after[k], by simp [hkl]⟩
      refine At.skip ?_
      refine At.then ?_
      refine At.seq ?_
      refine At.block ?_
      refine At.region ?_
      refine L.mv rfl rfl ?_
      refine L.fa 1 rfl rfl rfl ?_
      refine L.ld rfl rfl rfl rfl ?_
      refine L.mv rfl rfl ?_
      refine L.pure rfl (ev_ixN (z := 7) rfl rfl rfl rfl hlt) ?_
      refine L.fa 6 rfl rfl rfl ?_
      refine L.val rfl (ev_load1 (v := .slice (some ⟨ga, 0, none⟩) nda.after.length ca) rfl rfl) (cellIn (.tail (.tail (.tail (.head)))) (by rw [Nat.zero_add, nodesV_at ns vs a 6 nda _ hvs hnda hua (by omega)]; rfl)) ?_
      refine L.mv rfl rfl ?_
      refine L.pure rfl (ev_ixN (z := 1) rfl rfl rfl rfl hkl) ?_
      refine L.val rfl (ev_load1 (v := .int .i64 y) rfl rfl) (cellIn (.tail (.tail (.tail (.tail (.tail hsa))))) (by simp [intsV, hy])) ?_
      refine L.op rfl (o_slice1 (z := .int .i64 0) rfl rfl rfl rfl rfl rfl fun b163 => ?_)
      refine L.op rfl (o_append rfl rfl infoInt rfl (by omega) rfl rfl (.tail (.head)) (news := [.int .i64 y]) rfl (fun h => by cases h) (srcIs (fun j u h => by simpa using h)) (by simp [Value.oneCell']) (by simp; unfold maxLen; omega) (by simp; omega) fun v' hv' => ?_)
      refine L.as rfl rfl ?_
      refine L.nil ?_
      refine At.inBlock (At.then ?_)
      refine At.region ?_
      refine L.mv rfl rfl ?_
      refine L.pure rfl (ev_add rfl rfl (w64 (by omega))) ?_
      refine L.as rfl rfl ?_
      refine L.nil ?_
      exact At.round (k + 1, v') (by simp only; omega) (by simp only; omega) ⟨rfl, rfl, rfl, rfl, rfl, rfl, trivial⟩ (by simp only; rw [take_more hy, intsAt_snoc]; exact Ent.cons Ent.drop)
    ·
      obtain rfl : k = nda.after.length := by omega
      rw [List.take_length]
      refine At.exit ?_
      refine At.thenExit (At.roundExit (At.inBlockHit (At.then ?_)))
      refine At.seq ?_
      refine Dr.start rfl ?_
      refine Dr.p 0 rfl rfl (by kernel_rfl) (ev_field (off := 1) rfl rfl) ?_
      refine Dr.ld 1 rfl rfl (by kernel_rfl) (ev_load1 rfl rfl) (cellIs rfl) ?_
      refine Dr.p 2 rfl rfl (by kernel_rfl) (ev_move rfl) ?_
      refine Dr.p 3 rfl rfl (by kernel_rfl) (ev_move rfl) ?_
      refine Dr.p 4 rfl rfl (by kernel_rfl) (ev_move rfl) ?_
      refine Dr.run 5 rfl rfl (by kernel_rfl) (o_slice1 (z := .int .i64 0) rfl rfl rfl rfl rfl rfl fun b170 => ?_)
      refine Dr.kept [true] (by kernel_rfl) (Kept.cons (cellIs rfl) Kept.nil) ?_
      refine Dr.run 6 rfl rfl (by kernel_rfl) (o_append rfl rfl infoInt rfl (by omega) rfl rfl (.tail (.head)) (news := [.int .i64 (a + d : Nat)]) rfl (fun h => by cases h) (srcIs (fun j u h => by simpa using h)) (by simp [Value.oneCell']) (by unfold maxLen; omega) (by omega) fun v' hv' => ?_)
      rw [← intsAt_snoc]
      refine At.formRow .head ?_
      rintro A8 c8 rfl _ _ _ _ _
      refine Dr.kept [true] (by kernel_rfl) (Kept.cons (cellIs rfl) Kept.nil) ?_
      refine Dr.p 7 rfl rfl (by kernel_rfl) (ev_ixN (z := 7) rfl rfl rfl rfl hlt) ?_
      refine Dr.p 8 rfl rfl (by kernel_rfl) (ev_field (off := 6) rfl rfl) ?_
      refine Dr.run 9 rfl rfl (by kernel_rfl) (o_storeRow (.tail (.tail (.tail (.tail (.head))))) rfl rfl rfl rfl (by omega) ?_)
      refine Dr.kept [false] (by kernel_rfl) Kept.nil ?_
      refine Dr.done (by kernel_rfl) ?_
      refine At.then ?_
      refine At.seq ?_
      by_cases hz : rs.getD (a + d) false = true
      ·
        refine At.ent (ret_back (z := a + d) hvs hnda) ?_
        have hlen' : (FK.back ns a (a + d) nda).length = ns.length := by simp [FK.back]
        have hch := FK.back_chk (z := a + d) hpart.reach hlow hnda (by omega) hzn hn12 dl hdl'
        have hok' := FK.back_ok (z := a + d) hlow hnda (by omega) hzn dl
        have hft : FlowFits (FK.back ns a (a + d) nda) := okto_fits (f := ⟨dl, FK.back ns a (a + d) nda⟩) hok' (by simp only [hlen']; exact hn12)
        have hi6 : ∀ nd ∈ FK.back ns a (a + d) nda, (i64 nd.budget ∧ i64 nd.close ∧ i64 nd.beat ∧ i64 nd.base ∧ i64 nd.cap ∧ i64 nd.jitter) ∧ ∀ x ∈ nd.after, i64 x := okto_i64 (f := ⟨dl, FK.back ns a (a + d) nda⟩) hok' (by simp only [hlen']; exact hn12)
        have hpe := plain_encode dl (FK.back ns a (a + d) nda) (some ⟨gf, 0, none⟩) c' hft
        rw [hlen'] at hpe
        have hat : ∀ l r, Sel (nodesOwn (.slice (some ⟨gf, 0, none⟩) ns.length c') (FK.back ns a (a + d) nda)) l r → ∀ w, Holds E w l → NodesAt w w.heap.size (some ⟨gf, 0, none⟩) c' (FK.back ns a (a + d) nda) := fun l r hs => nodesOwn.at (by rw [hlen']; exact hs) hi6
        refine At.region ?_
        refine L.val rfl (ev_loadN (vs := [.int .i64 dl, .slice (some ⟨gf, 0, none⟩) ns.length c']) rfl rfl rfl rfl) (rowAll rfl) ?_
        refine L.op rfl (o_give rfl rfl rfl hE hpe (hat _ _ .head) ?_)
        rintro v m hv4
        have hc4 := hch.1 hz
        obtain ⟨rfl, rfl⟩ := hv4.bad (by rw [hc4]; omega)
        rw [hc4]
        refine At.app0 ?_
        have hrz : rs[a + d]? = some true := getD_true hz
        refine L.mv rfl rfl ?_
        refine L.ex rfl rfl rfl ?_
        refine L.ex rfl rfl rfl ?_
        refine L.ex rfl rfl rfl ?_
        refine L.as rfl rfl ?_
        refine L.nil ?_
        refine At.then ?_
        refine At.seq ?_
        refine At.region ?_
        refine L.mv rfl rfl ?_
        refine L.mv rfl rfl ?_
        refine L.pure rfl (ev_ixN (z := 1) rfl rfl rfl rfl hzn) ?_
        refine L.val rfl (ev_load1 (v := .bool true) rfl rfl) (cellIs (by rw [show 0 + (a + d) * 1 = a + d by omega]; exact boolA_at hrz)) ?_
        refine L.mv rfl rfl ?_
        refine L.pure rfl (ev_eql (r := true) rfl rfl rfl) ?_
        refine L.pure rfl (ev_eqlB rfl rfl rfl rfl) ?_
        refine L.mv rfl rfl ?_
        refine L.on rfl rfl rfl (L.vala rfl (ev_move rfl) (fun _ _ => trivial) ?_)
        refine L.on rfl rfl rfl (L.vala rfl (ev_move rfl) (fun _ _ => trivial) ?_)
        refine L.on rfl rfl rfl (L.vala rfl (ev_ixN (z := 1) rfl rfl rfl rfl hzn) (fun _ _ => trivial) ?_)
        refine L.on rfl rfl rfl (L.vala rfl (ev_load1 (v := .bool true) rfl rfl) (cellIs (by rw [show 0 + (a + d) * 1 = a + d by omega]; exact boolA_at hrz)) ?_)
        refine L.on rfl rfl rfl (L.vala rfl (ev_move rfl) (fun _ _ => trivial) ?_)
        refine L.off rfl rfl rfl rfl rfl rfl ?_
        refine L.off rfl rfl rfl rfl rfl rfl ?_
        refine L.on rfl rfl rfl (L.vala rfl (ev_pick rfl rfl rfl) (fun _ _ => trivial) ?_)
        refine L.pure rfl (ev_pick rfl rfl rfl) ?_
        refine L.as rfl rfl ?_
        refine L.nil ?_
        refine At.then ?_
        refine At.ret ?_
        exact At.ret1 [] rfl rfl ⟨rfl, rfl⟩ (Ent.drop.trans (Ent.drop.trans Ent.drop))
      ·
        refine At.ent (ret_back (z := a + d) hvs hnda) ?_
        have hlen' : (FK.back ns a (a + d) nda).length = ns.length := by simp [FK.back]
        have hch := FK.back_chk (z := a + d) hpart.reach hlow hnda (by omega) hzn hn12 dl hdl'
        have hok' := FK.back_ok (z := a + d) hlow hnda (by omega) hzn dl
        have hft : FlowFits (FK.back ns a (a + d) nda) := okto_fits (f := ⟨dl, FK.back ns a (a + d) nda⟩) hok' (by simp only [hlen']; exact hn12)
        have hi6 : ∀ nd ∈ FK.back ns a (a + d) nda, (i64 nd.budget ∧ i64 nd.close ∧ i64 nd.beat ∧ i64 nd.base ∧ i64 nd.cap ∧ i64 nd.jitter) ∧ ∀ x ∈ nd.after, i64 x := okto_i64 (f := ⟨dl, FK.back ns a (a + d) nda⟩) hok' (by simp only [hlen']; exact hn12)
        have hpe := plain_encode dl (FK.back ns a (a + d) nda) (some ⟨gf, 0, none⟩) c' hft
        rw [hlen'] at hpe
        have hat : ∀ l r, Sel (nodesOwn (.slice (some ⟨gf, 0, none⟩) ns.length c') (FK.back ns a (a + d) nda)) l r → ∀ w, Holds E w l → NodesAt w w.heap.size (some ⟨gf, 0, none⟩) c' (FK.back ns a (a + d) nda) := fun l r hs => nodesOwn.at (by rw [hlen']; exact hs) hi6
        refine At.region ?_
        refine L.val rfl (ev_loadN (vs := [.int .i64 dl, .slice (some ⟨gf, 0, none⟩) ns.length c']) rfl rfl rfl rfl) (rowAll rfl) ?_
        refine L.op rfl (o_give rfl rfl rfl hE hpe (hat _ _ .head) ?_)
        rintro v m hv4
        have hc4 := hch.2 (by simpa using hz)
        obtain ⟨bv, rfl, rfl⟩ := hv4.ok hc4
        refine At.app1 ?_
        have hrz : rs[a + d]? = some false := getD_false (by rw [hpart.len]; exact hzn) (by simpa using hz)
        refine L.mv rfl rfl ?_
        refine L.ex rfl rfl rfl ?_
        refine L.ex rfl rfl rfl ?_
        refine L.ex rfl rfl rfl ?_
        refine L.as rfl rfl ?_
        refine L.nil ?_
        refine At.then ?_
        refine At.seq ?_
        refine At.region ?_
        refine L.mv rfl rfl ?_
        refine L.mv rfl rfl ?_
        refine L.pure rfl (ev_ixN (z := 1) rfl rfl rfl rfl hzn) ?_
        refine L.val rfl (ev_load1 (v := .bool false) rfl rfl) (cellIs (by rw [show 0 + (a + d) * 1 = a + d by omega]; exact boolA_at hrz)) ?_
        refine L.mv rfl rfl ?_
        refine L.pure rfl (ev_eql (r := false) rfl rfl rfl) ?_
        refine L.pure rfl (ev_eqlB rfl rfl rfl rfl) ?_
        refine L.mv rfl rfl ?_
        refine L.on rfl rfl rfl (L.vala rfl (ev_move rfl) (fun _ _ => trivial) ?_)
        refine L.on rfl rfl rfl (L.vala rfl (ev_move rfl) (fun _ _ => trivial) ?_)
        refine L.on rfl rfl rfl (L.vala rfl (ev_ixN (z := 1) rfl rfl rfl rfl hzn) (fun _ _ => trivial) ?_)
        refine L.on rfl rfl rfl (L.vala rfl (ev_load1 (v := .bool false) rfl rfl) (cellIs (by rw [show 0 + (a + d) * 1 = a + d by omega]; exact boolA_at hrz)) ?_)
        refine L.on rfl rfl rfl (L.vala rfl (ev_move rfl) (fun _ _ => trivial) ?_)
        refine L.on rfl rfl rfl (L.vala rfl (ev_move rfl) (fun _ _ => trivial) ?_)
        refine L.on rfl rfl rfl (L.vala rfl (ev_eql (r := true) rfl rfl rfl) (fun _ _ => trivial) ?_)
        refine L.on rfl rfl rfl (L.vala rfl (ev_pick rfl rfl rfl) (fun _ _ => trivial) ?_)
        refine L.pure rfl (ev_pick rfl rfl rfl) ?_
        refine L.as rfl rfl ?_
        refine L.nil ?_
        refine At.then ?_
        refine At.ret ?_
        exact At.ret1 [] rfl rfl ⟨rfl, rfl⟩ (Ent.drop.trans (Ent.drop.trans (Ent.drop.trans Ent.drop)))
end Go.Proofs.YtagkobkmaigfcaaDoor
