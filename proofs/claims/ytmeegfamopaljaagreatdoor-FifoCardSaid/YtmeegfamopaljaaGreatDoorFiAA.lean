/- The walk of plain.turn, in the small logic. -/
import Derived.Test.YtmeegfamopaljaaGreatDoorFiK
import Derived.Test.YtmeegfamopaljaaGreatDoorFiJ
import Derived.Test.YtmeegfamopaljaaGreatDoorFiY
import Derived.BigQuiet
import Derived.Test.YtmeegfamopaljaaGreatDoorFiZ
import Derived.Test.YtmeegfamopaljaaGreatDoorFiX
import Derived.Test.YtmeegfamopaljaaGreatDoorFiE
namespace Go.Proofs.YtmeegfamopaljaaGreatDoor
open Go Go.RowKit Go.SL
variable {G : Env → Prop}
theorem afts_drop {vs : List Value} {ns : List FK.Node} {i : Nat} {u : Value} {nd : FK.Node} (hu : vs[i]? = some u) (hn : ns[i]? = some nd) : aftsAt (vs.drop i) (ns.drop i) = intsAt u nd.after :: aftsAt (vs.drop (i + 1)) (ns.drop (i + 1)) := by
  obtain ⟨h1, h2⟩ := List.getElem?_eq_some_iff.1 hu
  obtain ⟨h3, h4⟩ := List.getElem?_eq_some_iff.1 hn
  rw [List.drop_eq_getElem_cons h1, List.drop_eq_getElem_cons h3, h2, h4]
  rfl
set_option maxRecDepth 10000 in
theorem turn_does (dl : Int) (A : Option Addr) (c : Nat) (ns : List FK.Node) : Does Tryz.prog G 47 [.agg #[.int .i64 dl, .slice A ns.length c]].toArray [nodesOwn (.slice A ns.length c) ns] fun v m => v = .tuple #[] ∧ m = [] := by
  refine Does.body Tryz.func47 rfl rfl fun E fr hE => ?_
  refine At.app1 ?_
  refine At.openNodes .head ?_
  intro vs hvs
  refine At.formRow .head ?_
  intro A' c' hA hnil hform hc1 hc2 hlen
  injection hA with hA _ hcc
  subst hA; subst hcc
  have hc3 : c ≤ 9223372036854775807 := by unfold maxLen at hc2; omega
  refine At.seq ?_
  refine At.region ?_
  refine L.op rfl (o_box rfl rfl fun b1 => ?_)
  refine L.nil ?_
  refine At.then ?_
  refine At.seq ?_
  refine At.region ?_
  refine L.fa 1 rfl rfl rfl ?_
  refine L.ld rfl rfl rfl rfl ?_
  refine L.pure rfl (ev_lenS rfl rfl) ?_
  refine L.mv rfl rfl ?_
  refine L.nil ?_
  refine At.then ?_
  refine At.block ?_
  refine At.loop (X := Nat × List Value) (fun x => [(7, .int .i64 x.1), (6, .int .i64 ns.length), (1, .pointer (some ⟨b1, 0, none⟩))]) (fun x => blk b1 29 #[.int .i64 dl, .slice A ns.length c] :: row 46 7 (.slice A ns.length c) ns.length x.2 :: (aftsAt (vs.drop x.1) (ns.drop x.1) ++ fr)) (fun x => x.1 ≤ ns.length ∧ x.2.length = ns.length * 7 ∧ ∀ j u, x.1 ≤ j → vs[j]? = some u → x.2[j * 7 + 6]? = some u) (fun x => ns.length - x.1) (0, nodesV ns vs) ⟨by omega, hlen, fun j u _ hu => (by obtain ⟨h1, _⟩ := List.getElem?_eq_some_iff.1 hu; rw [nodesV_at ns vs j 6 ns[j] u hvs (by simp) hu (by omega)]; rfl)⟩ ⟨rfl, rfl, rfl, trivial⟩ (Ent.refl _) ?_
  rintro ⟨i, xs⟩ ⟨hi, hxl, hxs⟩
  simp only at hi hxl hxs ⊢
  refine At.seq ?_
  refine At.region ?_
  refine L.pure rfl (ev_lss rfl rfl rfl) ?_
  refine L.nil ?_
  refine At.then ?_
  refine At.seq ?_
  refine At.condD rfl (fun c8 => ?_) (fun c8 => ?_)
  ·
    have hlt : i < ns.length := by omega
    obtain ⟨g, rfl⟩ : ∃ g, A = some ⟨g, 0, none⟩ := by
      cases A with
      | none => have := (hnil rfl).1; omega
      | some ad => obtain ⟨g, rfl⟩ := hform ad rfl; exact ⟨g, rfl⟩
    obtain ⟨nd, hnd⟩ : ∃ nd, ns[i]? = some nd := ⟨ns[i], by simp [hlt]⟩
    obtain ⟨u, hu⟩ : ∃ u, vs[i]? = some u := ⟨vs[i]'(by omega), by simp⟩
    rw [afts_drop hu hnd]
    refine At.formRow (.tail (.tail (.head))) ?_
    rintro A6 c6 rfl hnil6 hform6 h61 h62 h63
    have h64 : c6 ≤ 9223372036854775807 := by unfold maxLen at h62; omega
    refine At.skip ?_
    refine At.then ?_
    refine At.seq ?_
    refine At.block ?_
    refine At.seq ?_
    refine At.region ?_
    refine L.mv rfl rfl ?_
    refine L.as rfl rfl ?_
    refine L.nil ?_
    refine At.then ?_
    refine At.seq ?_
    refine At.seq ?_
    refine At.region ?_
    refine L.fa 1 rfl rfl rfl ?_
    refine L.ld rfl rfl rfl rfl ?_
    refine L.mv rfl rfl ?_
    refine L.pure rfl (ev_ixN (z := 7) rfl rfl rfl rfl hlt) ?_
    refine L.fa 6 rfl rfl rfl ?_
    refine L.val rfl (ev_load1 rfl rfl) (cellIn (.tail (.head)) (by simpa using hxs i _ (Nat.le_refl _) hu)) ?_
    refine L.pure rfl (ev_lenS rfl rfl) ?_
    refine L.mv rfl rfl ?_
    refine L.nil ?_
    refine At.then ?_
    refine At.block ?_
    refine At.loop (X := Nat × List Value) (fun x => [(17, .int .i64 x.1), (16, .int .i64 nd.after.length), (2, .int .i64 i), (7, .int .i64 i), (6, .int .i64 ns.length), (1, .pointer (some ⟨b1, 0, none⟩))]) (fun x => row 3 1 (.slice A6 nd.after.length c6) nd.after.length x.2 :: blk b1 29 #[.int .i64 dl, .slice (some ⟨g, 0, none⟩) ns.length c] :: row 46 7 (.slice (some ⟨g, 0, none⟩) ns.length c) ns.length xs :: (aftsAt (vs.drop (i + 1)) (ns.drop (i + 1)) ++ fr)) (fun x => x.1 ≤ nd.after.length) (fun x => nd.after.length - x.1) (0, intsV nd.after) (by omega) ⟨rfl, rfl, rfl, rfl, rfl, rfl, trivial⟩ (Ent.sel (.tail (.tail (.head)))) ?_
    rintro ⟨k, ys⟩ hk
    simp only at hk ⊢
    refine At.seq ?_
    refine At.region ?_
    refine L.pure rfl (ev_lss rfl rfl rfl) ?_
    refine L.nil ?_
    refine At.then ?_
    refine At.seq ?_
    refine At.condD rfl (fun c18 => ?_) (fun c18 => ?_)
    ·
      have hlt2 : k < nd.after.length := by omega
      obtain ⟨g6, rfl⟩ : ∃ g, A6 = some ⟨g, 0, none⟩ := by
        cases A6 with
        | none => have := (hnil6 rfl).1; omega
        | some ad => obtain ⟨g, rfl⟩ := hform6 ad rfl; exact ⟨g, rfl⟩
      refine At.skip ?_
      refine At.then ?_
      refine At.seq ?_
      refine At.block ?_
      refine At.seq ?_
      refine At.region ?_
      refine L.mv rfl rfl ?_
      refine L.as rfl rfl ?_
      refine L.nil ?_
      refine At.then ?_
      refine At.region ?_
      refine L.fa 1 rfl rfl rfl ?_
      refine L.ld rfl rfl rfl rfl ?_
      refine L.mv rfl rfl ?_
      refine L.pure rfl (ev_ixN (z := 7) rfl rfl rfl rfl hlt) ?_
      refine L.fa 6 rfl rfl rfl ?_
      refine L.val rfl (ev_load1 rfl rfl) (cellIn (.tail (.tail (.head))) (by simpa using hxs i _ (Nat.le_refl _) hu)) ?_
      refine L.mv rfl rfl ?_
      refine L.pure rfl (ev_ixN (z := 1) rfl rfl rfl rfl hlt2) ?_
      refine L.op rfl (o_storeRow .head rfl rfl rfl rfl (by omega) ?_)
      refine L.nil ?_
      refine At.inBlock (At.then ?_)
      refine At.region ?_
      refine L.pure rfl (ev_add rfl rfl (w64 (by omega))) ?_
      refine L.mv rfl rfl ?_
      refine L.nil ?_
      exact At.round (k + 1, _) (by simp only; omega) (by simp only; omega) ⟨rfl, rfl, rfl, rfl, rfl, rfl, trivial⟩ (Ent.refl _)
    ·
      refine At.exit ?_
      refine At.thenExit (At.roundExit (At.inBlockHit (At.then ?_)))
      refine At.region ?_
      refine L.fa 1 rfl rfl rfl ?_
      refine L.ld rfl rfl rfl rfl ?_
      refine L.mv rfl rfl ?_
      refine L.pure rfl (ev_build (ps := []) (vs := []) (cs := #[.int .i64 0, .int .i64 0, .int .i64 0, .int .i64 0, .int .i64 0, .int .i64 0, .slice none 0 0]) rfl rfl rfl rfl rfl) ?_
      refine L.pure rfl (ev_ixN (z := 7) rfl rfl rfl rfl hlt) ?_
      refine L.op rfl (o_storeRowN (k := 7) (vs := [.int .i64 0, .int .i64 0, .int .i64 0, .int .i64 0, .int .i64 0, .int .i64 0, .slice none 0 0]) (.tail (.tail (.head))) rfl rfl rfl rfl (by simp [Value.oneCell']) (by omega) ?_)
      refine L.nil ?_
      refine At.inBlock (At.then ?_)
      refine At.region ?_
      refine L.pure rfl (ev_add rfl rfl (w64 (by omega))) ?_
      refine L.mv rfl rfl ?_
      refine L.nil ?_
      exact At.round (i + 1, lset xs (0 + i * 7) [.int .i64 0, .int .i64 0, .int .i64 0, .int .i64 0, .int .i64 0, .int .i64 0, .slice none 0 0]) ⟨by simp only; omega, by simp only [lset_length]; exact hxl, fun j u hj hu => (by simp only at hj ⊢; rw [lset_off _ _ _ _ (by simp; omega)]; exact hxs j u (by omega) hu)⟩ (by simp only; omega) ⟨rfl, rfl, rfl, trivial⟩ ((Ent.cons Ent.drop).trans (Ent.perm (List.Perm.swap _ _ _)))
  ·
    refine At.exit ?_
    refine At.thenExit (At.roundExit (At.inBlockHit ?_))
    exact At.end0 [] rfl ⟨rfl, rfl⟩ (Ent.drop.trans (Ent.drop.trans (dropApp _)))
end Go.Proofs.YtmeegfamopaljaaGreatDoor

namespace Go.Proofs.YtmeegfamopaljaaGreatDoor
open Go Go.RowKit Go.SL
variable {G : Env → Prop}
end Go.Proofs.YtmeegfamopaljaaGreatDoor

namespace Go.Proofs.YtmeegfamopaljaaGreatDoor
open Go Go.RowKit Go.Deep
def ChkPost (w : World) (p : Int × Int) (e : Ending) (w' : World) : Prop := e = .returned (.tuple #[.int .i64 p.1, .int .i64 p.2]) ∧ Below w.heap.size w w'
def FreeTo (l : List FK.Node) (g : List Bool) (i m : Nat) (b : Bool) : Prop := b = true ↔ ∀ k ∈ (FK.aft l i).take m, g[k]? = some true
theorem FreeTo.start (l : List FK.Node) (g : List Bool) (i : Nat) : FreeTo l g i 0 true := by simp [FreeTo]
theorem FreeTo.next {l : List FK.Node} {g : List Bool} {i m x : Nat} {b c : Bool} (h : FreeTo l g i m b) (hx : (FK.aft l i)[m]? = some x) (hg : g[x]? = some c) : FreeTo l g i (m + 1) (b && c) := by
  obtain ⟨hm, hx⟩ := List.getElem?_eq_some_iff.1 hx
  unfold FreeTo at *
  rw [List.take_succ_eq_append_getElem hm, hx]
  rw [Bool.and_eq_true, h]
  constructor
  · rintro ⟨h1, h2⟩ k hk
    simp at hk
    rcases hk with hk | rfl
    · exact h1 k hk
    · rw [hg, h2]
  · intro hk
    refine ⟨fun k hk' => hk k (by simp [hk']), ?_⟩
    have := hk x (by simp)
    rw [hg] at this
    exact Option.some.inj this
theorem FreeTo.whole {l : List FK.Node} {g : List Bool} {i m : Nat} {b : Bool} (h : FreeTo l g i m b) (hm : (FK.aft l i).length ≤ m) : b = true ↔ ∀ k ∈ FK.aft l i, g[k]? = some true := by
  unfold FreeTo at h
  rwa [List.take_of_length_le hm] at h
theorem ChkPost.mk {w w' : World} {p : Int × Int} (hb : Below w.heap.size w w') : ChkPost w p (.returned (.tuple #[.int .i64 p.1, .int .i64 p.2])) w' := ⟨rfl, hb⟩
def LastRel (len : Nat) (l : List Int) (m : Nat) : Prop := FK.EdgesOk len (-1) l ↔ FK.EdgesOk len (if m = 0 then -1 else l.getD (m - 1) 0) (l.drop m)
end Go.Proofs.YtmeegfamopaljaaGreatDoor

namespace Go.Proofs.YtmeegfamopaljaaGreatDoor
open Go Go.RowKit Go.Deep
theorem LastRel.start (len : Nat) (l : List Int) : LastRel len l 0 := by simp [LastRel]
theorem LastRel.at_ {len : Nat} {l : List Int} {m : Nat} {x prev : Int} (h : LastRel len l m) (hx : l[m]? = some x) (hp : 0 < m → l[m - 1]? = some prev) :
    FK.EdgesOk len (-1) l ↔ ((if m = 0 then -1 else prev) < x ∧ x < len ∧ FK.EdgesOk len x (l.drop (m + 1))) := by
  obtain ⟨hm, hx⟩ := List.getElem?_eq_some_iff.1 hx
  unfold LastRel at h
  rw [h, edges_drop hm, hx]
  by_cases h0 : m = 0
  · simp [h0]
  · have := hp (by omega)
    simp [h0, this]
theorem LastRel.next {len : Nat} {l : List Int} {m : Nat} {x prev : Int} (h : LastRel len l m) (hx : l[m]? = some x) (hp : 0 < m → l[m - 1]? = some prev) (h1 : (if m = 0 then -1 else prev) < x) (h2 : x < len) : LastRel len l (m + 1) := by
  have := h.at_ hx hp
  unfold LastRel
  rw [this]
  simp [h1, h2, hx]
theorem LastRel.ended {len : Nat} {l : List Int} {m : Nat} (h : LastRel len l m) (hm : l.length ≤ m) : FK.EdgesOk len (-1) l := by
  unfold LastRel at h
  rw [h, List.drop_of_length_le hm]
  trivial
end Go.Proofs.YtmeegfamopaljaaGreatDoor

namespace Go.Proofs.YtmeegfamopaljaaGreatDoor
open Go Go.RowKit Go.SL
theorem Fit.enc {f : FK.Flow} (h : FK.Fit f) : ∃ d : Nat, f.deadline = d ∧ d ≤ 1048576 ∧ f.nodes.length ≤ 12 ∧ ∀ n ∈ f.nodes, FK.NodeOk n ∧ FK.EdgesOk f.nodes.length (-1) n.after := by
  obtain ⟨⟨h1, h2⟩, h3, h4⟩ := h.head
  refine ⟨f.deadline.toNat, by omega, by omega, h4, fun n hn => ?_⟩
  obtain ⟨i, hi⟩ := List.getElem?_of_mem hn
  exact h.nodes i n (List.getElem?_eq_some_iff.1 hi).1 hi
set_option maxRecDepth 10000 in
theorem fk_encode (dl : Int) (ns : List FK.Node) (A : Option Addr) (c : Nat) : Gives Tryz.prog Good 46 [.agg #[.int .i64 dl, .slice A ns.length c]].toArray (fun w => NodesAt w w.heap.size A c ns)
    fun v m => ((FK.chk ⟨dl, ns⟩).1 = 0 ∧ ∃ bv, v = .tuple #[bv, .nilIface] ∧ m = [bytesAt bv (FK.encFlow ⟨dl, ns⟩)]) ∨ ((FK.chk ⟨dl, ns⟩).1 ≠ 0 ∧ ∃ b, v = .tuple #[.slice none 0 0, .iface 159 (.pointer (some ⟨b, 0, none⟩))] ∧ m = [blk b 164 #[.int .i64 (FK.chk ⟨dl, ns⟩).1, .int .i64 (FK.chk ⟨dl, ns⟩).2]]) := by
  refine Gives.body Tryz.func46 rfl rfl fun E w0 hE h0 hN => ?_
  refine At.seq ?_
  refine At.region ?_
  refine L.op rfl (o_box rfl rfl fun b1 => ?_)
  refine L.as rfl rfl ?_
  refine L.as rfl rfl ?_
  refine L.nil ?_
  refine At.then ?_
  refine At.seq ?_
  refine At.seq ?_
  by_cases hc0 : (FK.chk ⟨dl, ns⟩).1 = 0
  ·
    refine At.region ?_
    refine L.val rfl (ev_loadN (vs := [.int .i64 dl, .slice A ns.length c]) rfl rfl rfl rfl) (rowAll rfl) ?_
    refine L.op rfl (o_give rfl rfl rfl hE (check_gives ⟨dl, ns⟩ A c) (nodesLater (.tail (.head)) h0 hN (Nat.le_refl _)) ?_)
    rintro v m hv
    obtain ⟨rfl, rfl⟩ := hv.ok hc0
    refine At.app0 ?_
    obtain ⟨d, hd, hd1, hl, ho⟩ := Fit.enc (FK.chk_zero hc0)
    simp only at hd hl ho
    subst hd
    refine L.as rfl rfl ?_
    refine L.nil ?_
    refine At.then ?_
    refine At.seq ?_
    refine At.region ?_
    refine L.mv rfl rfl ?_
    refine L.pure rfl (ev_neqNil0 rfl rfl) ?_
    refine L.nil ?_
    refine At.then ?_
    refine At.condF rfl ?_
    refine At.skip ?_
    refine At.then ?_
    refine At.seq ?_
    refine At.region ?_
    refine L.val rfl (ev_loadN (vs := [.int .i64 d, .slice A ns.length c]) rfl rfl rfl rfl) (rowAll rfl) ?_
    refine L.op rfl (o_give rfl rfl rfl hE (Bytes_gives d A c ns hd1 hl ho) (nodesLater (.tail (.head)) h0 hN (Nat.le_refl _)) ?_)
    rintro v m rfl
    refine At.app1 ?_
    refine L.as rfl rfl ?_
    refine L.as rfl rfl ?_
    refine L.nil ?_
    refine At.then ?_
    refine At.ret ?_
    exact At.ret2 [_] rfl rfl rfl (.inl ⟨hc0, _, rfl, rfl⟩) (Ent.cons Ent.drop)
  ·
    refine At.region ?_
    refine L.val rfl (ev_loadN (vs := [.int .i64 dl, .slice A ns.length c]) rfl rfl rfl rfl) (rowAll rfl) ?_
    refine L.op rfl (o_give rfl rfl rfl hE (check_gives ⟨dl, ns⟩ A c) (nodesLater (.tail (.head)) h0 hN (Nat.le_refl _)) ?_)
    rintro v m hv
    obtain ⟨b, rfl, rfl⟩ := hv.bad hc0
    refine At.app1 ?_
    refine L.as rfl rfl ?_
    refine L.nil ?_
    refine At.then ?_
    refine At.seq ?_
    refine At.region ?_
    refine L.mv rfl rfl ?_
    refine L.pure rfl (ev_neqNil rfl rfl) ?_
    refine L.nil ?_
    refine At.then ?_
    refine At.condT rfl ?_
    refine At.seq ?_
    refine At.region ?_
    refine L.mv rfl rfl ?_
    refine L.as rfl rfl ?_
    refine L.as rfl rfl ?_
    refine L.nil ?_
    refine At.then ?_
    refine At.ret ?_
    refine At.thenRet ?_
    exact At.ret2 [_] rfl rfl rfl (.inr ⟨hc0, b, rfl, rfl⟩) (Ent.cons Ent.drop)
def EncPost (f : FK.Flow) (v : Value) (m : List HP) : Prop :=
  ((FK.chk f).1 = 0 ∧ ∃ bv, v = .tuple #[bv, .int .i64 0, .int .i64 (-1)] ∧ m = [bytesAt bv (FK.encFlow f)]) ∨ ((FK.chk f).1 ≠ 0 ∧ v = .tuple #[.slice none 0 0, .int .i64 (FK.chk f).1, .int .i64 (FK.chk f).2] ∧ m = [])
set_option maxRecDepth 10000 in
theorem plain_encode (dl : Int) (ns : List FK.Node) (A : Option Addr) (c : Nat) (hfit : FlowFits ns) : Gives Tryz.prog Good 20 [.agg #[.int .i64 dl, .slice A ns.length c]].toArray (fun w => NodesAt w w.heap.size A c ns) (EncPost ⟨dl, ns⟩) := by
  refine Gives.body Tryz.func20 rfl rfl fun E w0 hE h0 hN => ?_
  refine At.seq ?_
  refine At.region ?_
  refine L.op rfl (o_box rfl rfl fun b1 => ?_)
  refine L.as rfl rfl ?_
  refine L.as rfl rfl ?_
  refine L.as rfl rfl ?_
  refine L.nil ?_
  refine At.then ?_
  refine At.seq ?_
  refine At.region ?_
  refine L.val rfl (ev_loadN (vs := [.int .i64 dl, .slice A ns.length c]) rfl rfl rfl rfl) (rowAll rfl) ?_
  refine L.op rfl (o_give rfl rfl rfl hE (copied_gives dl A c ns hfit) (nodesLater (.tail (.head)) h0 hN (Nat.le_refl _)) ?_)
  rintro v m ⟨A', c', rfl, rfl⟩
  refine At.app1 ?_
  refine L.op rfl (o_alloc (z := .agg #[.int .i64 0, .slice none 0 0]) rfl rfl fun b5 => ?_)
  refine L.op rfl (o_storeN rfl (m := 2) (vs := [.int .i64 dl, .slice A' ns.length c']) rfl rfl rfl rfl (by simp [Value.oneCell']) (by simp [Value.cells]) ?_)
  refine L.nil ?_
  refine At.then ?_
  refine At.seq ?_
  by_cases hc0 : (FK.chk ⟨dl, ns⟩).1 = 0
  ·
    refine At.region ?_
    refine L.val rfl (ev_loadN (vs := [.int .i64 dl, .slice A' ns.length c']) rfl rfl rfl rfl) (rowAll rfl) ?_
    refine L.op rfl (o_give rfl rfl rfl hE (fk_encode dl ns A' c') (nodesOwn.at (.tail (.head)) hN.i64s) ?_)
    rintro v m hv
    obtain ⟨bv, rfl, rfl⟩ : ∃ bv, v = .tuple #[bv, .nilIface] ∧ m = [bytesAt bv (FK.encFlow ⟨dl, ns⟩)] := hv.elim (fun h => h.2) fun h => absurd hc0 h.1
    refine At.app1 ?_
    refine L.mv rfl rfl ?_
    refine L.ex rfl rfl rfl ?_
    refine L.ex rfl rfl rfl ?_
    refine L.as rfl rfl ?_
    refine L.as rfl rfl ?_
    refine L.nil ?_
    refine At.then ?_
    refine At.seq ?_
    refine At.region ?_
    refine L.val rfl (ev_loadN (vs := [.int .i64 dl, .slice A' ns.length c']) rfl rfl rfl rfl) (rowAll rfl) ?_
    refine L.op rfl (o_call rfl rfl rfl hE (turn_does dl A' c' ns) (Ent.sel (.tail (.tail (.head)))) ?_)
    rintro v m ⟨rfl, rfl⟩
    refine At.app0 ?_
    refine L.nil ?_
    refine At.then ?_
    refine At.seq ?_
    refine At.region ?_
    refine L.mv rfl rfl ?_
    refine L.op rfl (o_call rfl rfl rfl hE told_nil (Ent.refl _) ?_)
    rintro v m ⟨rfl, rfl⟩
    refine At.app0 ?_
    refine L.mv rfl rfl ?_
    refine L.ex rfl rfl rfl ?_
    refine L.ex rfl rfl rfl ?_
    refine L.as rfl rfl ?_
    refine L.as rfl rfl ?_
    refine L.nil ?_
    refine At.then ?_
    refine At.seq ?_
    refine At.region ?_
    refine L.mv rfl rfl ?_
    refine L.mv rfl rfl ?_
    refine L.mv rfl rfl ?_
    refine L.as rfl rfl ?_
    refine L.as rfl rfl ?_
    refine L.as rfl rfl ?_
    refine L.nil ?_
    refine At.then ?_
    refine At.ret ?_
    exact At.ret3 [_] rfl rfl rfl rfl (.inl ⟨hc0, bv, rfl, rfl⟩) (Ent.cons (Ent.drop.trans Ent.drop))
  ·
    refine At.region ?_
    refine L.val rfl (ev_loadN (vs := [.int .i64 dl, .slice A' ns.length c']) rfl rfl rfl rfl) (rowAll rfl) ?_
    refine L.op rfl (o_give rfl rfl rfl hE (fk_encode dl ns A' c') (nodesOwn.at (.tail (.head)) hN.i64s) ?_)
    rintro v m hv
    obtain ⟨b, rfl, rfl⟩ : ∃ b, v = .tuple #[.slice none 0 0, .iface 159 (.pointer (some ⟨b, 0, none⟩))] ∧ m = [blk b 164 #[.int .i64 (FK.chk ⟨dl, ns⟩).1, .int .i64 (FK.chk ⟨dl, ns⟩).2]] := hv.elim (fun h => absurd h.1 hc0) fun h => h.2
    refine At.app1 ?_
    refine L.mv rfl rfl ?_
    refine L.ex rfl rfl rfl ?_
    refine L.ex rfl rfl rfl ?_
    refine L.as rfl rfl ?_
    refine L.as rfl rfl ?_
    refine L.nil ?_
    refine At.then ?_
    refine At.seq ?_
    refine At.region ?_
    refine L.val rfl (ev_loadN (vs := [.int .i64 dl, .slice A' ns.length c']) rfl rfl rfl rfl) (rowAll rfl) ?_
    refine L.op rfl (o_call rfl rfl rfl hE (turn_does dl A' c' ns) (Ent.sel (.tail (.tail (.head)))) ?_)
    rintro v m ⟨rfl, rfl⟩
    refine At.app0 ?_
    refine L.nil ?_
    refine At.then ?_
    refine At.seq ?_
    refine At.region ?_
    refine L.mv rfl rfl ?_
    refine L.op rfl (o_call rfl rfl rfl hE (told_fault b _ _) (Ent.sel .head) ?_)
    rintro v m ⟨rfl, rfl⟩
    refine At.app1 ?_
    refine L.mv rfl rfl ?_
    refine L.ex rfl rfl rfl ?_
    refine L.ex rfl rfl rfl ?_
    refine L.as rfl rfl ?_
    refine L.as rfl rfl ?_
    refine L.nil ?_
    refine At.then ?_
    refine At.seq ?_
    refine At.region ?_
    refine L.mv rfl rfl ?_
    refine L.mv rfl rfl ?_
    refine L.mv rfl rfl ?_
    refine L.as rfl rfl ?_
    refine L.as rfl rfl ?_
    refine L.as rfl rfl ?_
    refine L.nil ?_
    refine At.then ?_
    refine At.ret ?_
    exact At.ret3 [] rfl rfl rfl rfl (.inr ⟨hc0, rfl, rfl⟩) (Ent.drop.trans (Ent.drop.trans Ent.drop))
end Go.Proofs.YtmeegfamopaljaaGreatDoor

namespace FK
structure Dk (N : Nat) (σ : Dsk) : Prop where
  quiet : Quiet σ
  now : vol σ.now ≤ N
  dur : vol σ.dur ≤ N
theorem Dk.e0 : Dk 0 FK.e0 := ⟨e0_quiet, Nat.le_refl _, Nat.le_refl _⟩
theorem Dk.logs {N : Nat} {σ : Dsk} (h : Dk N σ) (n : Nat) {s : ByteArray} (hs : s.size ≤ 100000) : Dk (N + 100000) (σ.logs n s) := by
  have h1 := vol_do σ.now ⟨2, logName n, s⟩
  have h2 := vol_do σ.dur ⟨2, logName n, s⟩
  have h3 := h.now
  have h4 := h.dur
  refine ⟨h.quiet.logs n s, ?_, ?_⟩
  · show vol (doOp σ.now ⟨2, logName n, s⟩) ≤ _
    simp only at h1
    omega
  · show vol (doOp σ.dur ⟨2, logName n, s⟩) ≤ _
    simp only at h2
    omega
end FK
namespace Go.Proofs.YtmeegfamopaljaaGreatDoor
open Go Go.RowKit Go.SL
theorem dk_roomy {N : Nat} {σ : FK.Dsk} (h : FK.Dk N σ) (hN : N ≤ 1000000000000000) : Roomy σ := by
  have h1 := h.now
  have h2 := h.dur
  refine ⟨by omega, ?_, by rw [h.quiet.pend]; simp⟩
  rw [h.quiet.pend]
  simp [FK.pvol]
  omega
theorem dk_noted {N : Nat} {σ : FK.Dsk} (h : FK.Dk N σ) (J : FK.Jn) (op : Nat) {n : Nat} (hn : n < 18446744073709551616) : FK.Dk (N + 100000) (noted σ J op n) := by
  refine h.logs J.n ?_
  have h1 := encN_le_ten hn
  have h2 : (FK.entryB op n).length ≤ 11 := by unfold FK.entryB; simp; omega
  have h3 := frame_len (FK.entryB op n) (by omega)
  rw [txt_size]
  omega
theorem dk_submit {N : Nat} {σ : FK.Dsk} (h : FK.Dk N σ) (n : Nat) {fl : FK.Flow} (hf : FK.Fit fl) : FK.Dk (N + 100000) (σ.logs n (txt (FK.frame (1 :: FK.encFlow fl)))) := by
  refine h.logs n ?_
  have h1 := hf.encLen
  have h3 := frame_len (1 :: FK.encFlow fl) (by simp; omega)
  rw [txt_size]
  simp only [List.length_cons] at h3
  omega
theorem fill_node2 (n1 n2 : FK.Node) (v1 v2 : Value) (_h1 : v1.oneCell' = true) (_h2 : v2.oneCell' = true) : Instr.fill (fun i => some (i * 7, 7)) (Array.map (fun x => (Value.agg #[.int .i64 0, .int .i64 0, .int .i64 0, .int .i64 0, .int .i64 0, .int .i64 0, .slice none 0 0]).cells[x % (Value.agg #[.int .i64 0, .int .i64 0, .int .i64 0, .int .i64 0, .int .i64 0, .int .i64 0, .slice none 0 0]).cells.size]!) (Array.range (2 * 7)))
    ((List.map (fun x => x.1) [((0 : Nat), Operand.tmp 34), (1, .tmp 36)]).zip [Value.agg (nodeCells n1 v1).toArray, Value.agg (nodeCells n2 v2).toArray]) = some (nodesV [n1, n2] [v1, v2]).toArray := by
  have e1 : Array.range (2 * 7) = #[0, 1, 2, 3, 4, 5, 6, 7, 8, 9, 10, 11, 12, 13] := rfl
  rw [e1]
  simp [Instr.fill, nodeCells, Value.cells, nodesV]
theorem fit_fits {f : FK.Flow} (h : FK.Fit f) : FlowFits f.nodes := ⟨by have := h.head.2.2; omega, fun nd hnd => by
  obtain ⟨i, hi⟩ := List.getElem?_of_mem hnd
  have := FK.edges_lenp _ _ (h.nodes i nd (FK.lt_of_some hi) hi).2
  have := h.head.2.2
  omega⟩
theorem ent_nodes2 {b37 b35 : Nat} {r : List HP} : Ent (blk b37 46 (nodesV FK.flow2.nodes [.slice none 0 0, .slice (some ⟨b35, 0, none⟩) 1 1]).toArray :: blk b35 3 #[.int .i64 0] :: r) (nodesOwn (.slice (some ⟨b37, 0, none⟩) 2 2) FK.flow2.nodes :: r) := by
  refine Ent.trans ?_ (nodesOwn.ent (ns := FK.flow2.nodes) (vs := [.slice none 0 0, .slice (some ⟨b35, 0, none⟩) 1 1]) rfl)
  refine (Ent.cons ((ent_states (b := b35) (xs := [0]) (by simp [maxLen])).trans (Ent.row0 (e := 3) (size := 1)))).trans ?_
  exact Ent.closeRow (Nat.le_refl _) (by simp [maxLen]) rfl rfl
section
variable {h f e j d : Nat} {p : EA} {σ : FK.Dsk} {N : Nat}
theorem o1_poll (hD : FK.Dk N σ) (hN : N ≤ 1000000000) : Does Tryz.prog Good 24 [ptr h, wellV].toArray (hostL h f e j d p FK.o1 FK.J0 σ) fun v m => v = .tuple #[taskV 1 0 1 1, .bool true, .int .i64 0] ∧ m = hostL h f e j d p FK.o2 FK.J0 (noted σ FK.J0 2 0) := by
  have := hpoll1_does (h := h) (f := f) (e := e) (j := j) (d := d) (p := p) (J := FK.J0) (id := 1) (k := 0) (q := []) (R := (FK.rn2 1 ⟨2, 0, 0⟩ ⟨1, 0, 0⟩ 0)) (s := ⟨2, 0, 0⟩) (nd := ⟨2, 9, 0, 3, 9, 0, []⟩) FK.o1_ok (by decide) rfl (dk_roomy hD (by omega)) hD.quiet rfl rfl rfl rfl (by decide) (by decide)
  rw [FK.o2_eq] at this
  exact this
theorem o4_poll (hD : FK.Dk N σ) (hN : N ≤ 1000000000) : Does Tryz.prog Good 24 [ptr h, wellV].toArray (hostL h f e j d p FK.o4 FK.J0 σ) fun v m => v = .tuple #[taskV 1 0 2 2, .bool true, .int .i64 0] ∧ m = hostL h f e j d p FK.o5 FK.J0 (noted σ FK.J0 2 0) := by
  have := hpoll1_does (h := h) (f := f) (e := e) (j := j) (d := d) (p := p) (J := FK.J0) (id := 1) (k := 0) (q := []) (R := (FK.rn2 1 ⟨2, 1, 0⟩ ⟨1, 0, 0⟩ 0)) (s := ⟨2, 1, 0⟩) (nd := ⟨2, 9, 0, 3, 9, 0, []⟩) FK.o4_ok (by decide) rfl (dk_roomy hD (by omega)) hD.quiet rfl rfl rfl rfl (by decide) (by decide)
  rw [FK.o5_eq] at this
  exact this
theorem o6_poll (hD : FK.Dk N σ) (hN : N ≤ 1000000000) : Does Tryz.prog Good 24 [ptr h, wellV].toArray (hostL h f e j d p FK.o6 FK.J0 σ) fun v m => v = .tuple #[taskV 1 1 1 3, .bool true, .int .i64 0] ∧ m = hostL h f e j d p FK.o7 FK.J0 (noted σ FK.J0 2 0) := by
  have := hpoll1_does (h := h) (f := f) (e := e) (j := j) (d := d) (p := p) (J := FK.J0) (id := 1) (k := 1) (q := []) (R := (FK.rn2 1 ⟨5, 2, 0⟩ ⟨2, 0, 0⟩ 0)) (s := ⟨2, 0, 0⟩) (nd := ⟨1, 9, 0, 1, 1, 0, [0]⟩) FK.o6_ok (by decide) rfl (dk_roomy hD (by omega)) hD.quiet rfl rfl rfl rfl (by decide) (by decide)
  rw [FK.o7_eq] at this
  exact this
theorem o2_do (hD : FK.Dk N σ) (hN : N ≤ 1000000000) : Does Tryz.prog Good 25 [ptr h, .int .i64 5, .int .u64 1, wellV].toArray (hostL h f e j d p FK.o2 FK.J0 σ) fun v m => v = .int .i64 0 ∧ m = hostL h f e j d p FK.o3 FK.J0 (noted σ FK.J0 5 1) := by
  have := hfail_does (h := h) (f := f) (e := e) (j := j) (d := d) (p := p) (J := FK.J0) (t := 1) (P := ⟨1, 0, 0⟩) FK.o2_ok (by decide) (by decide) rfl (dk_roomy hD (by omega)) hD.quiet rfl (by decide) (by decide)
  rw [FK.o3_eq] at this
  exact this
theorem o5_do (hD : FK.Dk N σ) (hN : N ≤ 1000000000) : Does Tryz.prog Good 25 [ptr h, .int .i64 4, .int .u64 2, wellV].toArray (hostL h f e j d p FK.o5 FK.J0 σ) fun v m => v = .int .i64 0 ∧ m = hostL h f e j d p FK.o6 FK.J0 (noted σ FK.J0 4 2) := by
  have := hcomplete_does (h := h) (f := f) (e := e) (j := j) (d := d) (p := p) (J := FK.J0) (t := 2) (P := ⟨1, 0, 0⟩) FK.o5_ok (by decide) (by decide) rfl (dk_roomy hD (by omega)) hD.quiet rfl (by decide)
  rw [FK.o6_eq] at this
  exact this
theorem o7_do (hD : FK.Dk N σ) (hN : N ≤ 1000000000) : Does Tryz.prog Good 25 [ptr h, .int .i64 4, .int .u64 3, wellV].toArray (hostL h f e j d p FK.o7 FK.J0 σ) fun v m => v = .int .i64 0 ∧ m = hostL h f e j d p FK.o8 FK.J0 (noted σ FK.J0 4 3) := by
  have := hcomplete_does (h := h) (f := f) (e := e) (j := j) (d := d) (p := p) (J := FK.J0) (t := 3) (P := ⟨1, 1, 0⟩) FK.o7_ok (by decide) (by decide) rfl (dk_roomy hD (by omega)) hD.quiet rfl (by decide)
  rw [FK.o8_eq] at this
  exact this
theorem o3_tick (hD : FK.Dk N σ) (hN : N ≤ 1000000000) : Does Tryz.prog Good 25 [ptr h, .int .i64 7, .int .u64 3, wellV].toArray (hostL h f e j d p FK.o3 FK.J0 σ) fun v m => v = .int .i64 0 ∧ m = hostL h f e j d p FK.o4 FK.J0 (noted σ FK.J0 7 3) := by
  refine (htick_does (h := h) (f := f) (e := e) (j := j) (d := d) (p := p) (J := FK.J0) (n := 3) FK.o3_ok (by decide) (by decide) rfl (dk_roomy hD (by omega)) hD.quiet (by decide) (by decide)).mono ?_
  rintro v m ⟨rfl, U, hU, rfl⟩
  rw [FK.o4_eq hU]
  exact ⟨_, ⟨rfl, rfl⟩, Ent.refl _⟩
end
set_option maxRecDepth 20000 in
set_option maxHeartbeats 4000000 in
theorem opened_does : Does Tryz.prog Good 17 [].toArray [] fun v m => ∃ h f e j d p σ, v = ptr h ∧ FK.Dk 1000000 σ ∧ m = hostL h f e j d p FK.o8 FK.J0 σ := by
  refine Does.body Tryz.func17 rfl rfl fun E fr hE => ?_
  refine At.app0 ?_
  refine At.seq ?_
  refine At.region ?_
  refine L.as rfl rfl ?_
  refine L.nil ?_
  refine At.then ?_
  refine At.seq ?_
  refine At.region ?_
  refine L.op rfl (o_call rfl rfl rfl hE newHost_does (Ent.refl _) ?_)
  rintro v m ⟨h, d, rfl, rfl⟩
  refine At.app2 ?_
  refine L.as rfl rfl ?_
  refine L.nil ?_
  refine At.then ?_
  refine At.seq ?_
  refine At.region ?_
  refine L.op rfl (o_call rfl rfl rfl hE well_does (Ent.refl _) ?_)
  rintro v m ⟨rfl, rfl⟩
  refine At.app0 ?_
  refine L.op rfl (o_alloc (z := .agg #[.int .i64 0, .int .i64 0, .int .i64 0, .int .i64 0]) rfl rfl fun b2 => ?_)
  refine L.op rfl (o_storeN rfl (m := 4) (vs := fallL (-1) (-1) 0 0) rfl rfl rfl rfl (by simp [Value.oneCell']) (by show 0 + 4 ≤ 4; omega) ?_)
  refine At.blkAs b2 (fallL (-1) (-1) 0 0).toArray rfl ?_
  refine L.nil ?_
  refine At.then ?_
  refine At.seq ?_
  refine At.region ?_
  refine L.mv rfl rfl ?_
  refine L.val rfl (ev_loadN (vs := fallL (-1) (-1) 0 0) rfl rfl rfl rfl) (rowAll rfl) ?_
  refine L.op rfl (o_call rfl rfl rfl hE (hopen0_does (h := h) (d := d)) (Ent.sel2 (.tail .head) (.tail .head)) ?_)
  rintro v m ⟨rfl, f, e, j, p, rfl⟩
  refine At.app5 ?_
  refine L.as rfl rfl ?_
  refine L.nil ?_
  refine At.then ?_
  refine At.seq ?_
  refine At.region ?_
  refine L.pure rfl (ev_build (ps := [(0, .const (.int .i64 2)), (1, .const (.int .i64 9)), (3, .const (.int .i64 3)), (4, .const (.int .i64 9))]) (vs := [.int .i64 2, .int .i64 9, .int .i64 3, .int .i64 9]) (cs := (nodeCells ⟨2, 9, 0, 3, 9, 0, []⟩ (.slice none 0 0)).toArray) rfl rfl rfl rfl rfl) ?_
  refine L.op rfl (o_slice1 rfl rfl rfl rfl rfl rfl fun b35 => ?_)
  refine L.pure rfl (ev_build (ps := [(0, .const (.int .i64 1)), (1, .const (.int .i64 9)), (3, .const (.int .i64 1)), (4, .const (.int .i64 1)), (6, .tmp 35)]) (vs := [.int .i64 1, .int .i64 9, .int .i64 1, .int .i64 1, .slice (some ⟨b35, 0, none⟩) 1 1]) (cs := (nodeCells ⟨1, 9, 0, 1, 1, 0, [0]⟩ (.slice (some ⟨b35, 0, none⟩) 1 1)).toArray) rfl rfl rfl rfl rfl) ?_
  refine L.op rfl (o_slices (m := 2) (z := .agg #[.int .i64 0, .int .i64 0, .int .i64 0, .int .i64 0, .int .i64 0, .int .i64 0, .slice none 0 0]) (size := 7) (ps := [(0, .tmp 34), (1, .tmp 36)]) (vs := [.agg (nodeCells ⟨2, 9, 0, 3, 9, 0, []⟩ (.slice none 0 0)).toArray, .agg (nodeCells ⟨1, 9, 0, 1, 1, 0, [0]⟩ (.slice (some ⟨b35, 0, none⟩) 1 1)).toArray]) (cs := (nodesV FK.flow2.nodes [.slice none 0 0, .slice (some ⟨b35, 0, none⟩) 1 1]).toArray) rfl rfl rfl rfl (by omega) (by omega) rfl (fill_node2 _ _ _ _ rfl rfl) fun b37 => ?_)
  refine At.ent (ent_nodes2 (b37 := b37) (b35 := b35)) ?_
  refine L.pure rfl (ev_build (ps := [(0, .const (.int .i64 100)), (1, .tmp 37)]) (vs := [.int .i64 100, .slice (some ⟨b37, 0, none⟩) 2 2]) (cs := #[.int .i64 100, .slice (some ⟨b37, 0, none⟩) 2 2]) rfl rfl rfl rfl rfl) ?_
  refine L.op rfl (o_give rfl rfl rfl hE (plain_encode 100 FK.flow2.nodes (some ⟨b37, 0, none⟩) 2 (fit_fits FK.flow2_fit)) (nodesOwn.at (c := 2) (ns := FK.flow2.nodes) .head (fit_small FK.flow2_fit)) ?_)
  rintro v m hv
  obtain ⟨bv, rfl, rfl⟩ : ∃ bv, v = .tuple #[bv, .int .i64 0, .int .i64 (-1)] ∧ m = [bytesAt bv (FK.encFlow FK.flow2)] := by
    rcases hv with ⟨_, h⟩ | ⟨h, _⟩
    · exact h
    · exact absurd (by rw [show (⟨100, FK.flow2.nodes⟩ : FK.Flow) = FK.flow2 from rfl, FK.flow2_fit.chk]) h
  refine At.app1 ?_
  refine At.formRow .head ?_
  rintro A4 c4 rfl f1 f2 - - -
  obtain ⟨hreads, hnil⟩ := form_reads f1 f2
  refine At.ent (l' := hostP h d f :: fkB f e j :: engX e p FK.En.fresh :: jrnlAt j d FK.J0 :: diskAt d FK.e0 :: bytesAt (.slice A4 (FK.encFlow FK.flow2).length c4) (FK.encFlow FK.flow2) :: blk b2 41 (fallL (-1) (-1) 0 0).toArray :: fr) Ent.auto ?_
  refine L.mv rfl rfl ?_
  refine L.ex rfl rfl rfl ?_
  refine L.ex rfl rfl rfl ?_
  refine L.ex rfl rfl rfl ?_
  refine L.as rfl rfl ?_
  refine L.as rfl rfl ?_
  refine L.as rfl rfl ?_
  refine L.nil ?_
  refine At.then ?_
  refine At.seq ?_
  refine At.region ?_
  refine L.mv rfl rfl ?_
  refine L.mv rfl rfl ?_
  refine L.val rfl (ev_loadN (vs := fallL (-1) (-1) 0 0) rfl rfl rfl rfl) (rowAll rfl) ?_
  refine L.op rfl (o_call rfl rfl rfl hE (hsubmit_does (h := h) (f := f) (e := e) (j := j) (d := d) (p := p) (J := FK.J0) (σ := FK.e0) (bs := FK.encFlow FK.flow2) (fl := FK.flow2) FK.Ok.fresh (by decide) rfl (dk_roomy FK.Dk.e0 (by omega)) FK.e0_quiet hreads hnil (by have := FK.flow2_fit.encLen; omega) (FK.dec_enc FK.flow2_fit) FK.flow2_fit rfl (by decide) (by decide)) (Ent.refl _) ?_)
  rintro v m ⟨rfl, S0, p', hcut, rfl⟩
  refine At.app6 ?_
  obtain rfl := FK.cut0 hcut
  rw [FK.o1_eq]
  clear hcut
  obtain ⟨σ1, hσ1⟩ : ∃ σ, σ = FK.e0.logs FK.J0.n (txt (FK.frame (1 :: FK.encFlow FK.flow2))) := ⟨_, rfl⟩
  rw [← hσ1]
  have hDσ1 : FK.Dk 100000 σ1 := hσ1 ▸ dk_submit FK.Dk.e0 0 FK.flow2_fit
  refine At.ent (l' := hostP h d f :: fkB f e j :: engX e p' FK.o1 :: jrnlAt j d FK.J0 :: diskAt d σ1 :: blk b2 41 (fallL (-1) (-1) 0 0).toArray :: fr) Ent.auto ?_
  refine L.mv rfl rfl ?_
  refine L.ex rfl rfl rfl ?_
  refine L.ex rfl rfl rfl ?_
  refine L.ex rfl rfl rfl ?_
  refine L.as rfl rfl ?_
  refine L.as rfl rfl ?_
  refine L.as rfl rfl ?_
  refine L.nil ?_
  refine At.then ?_
  refine At.seq ?_
  refine At.region ?_
  refine L.mv rfl rfl ?_
  refine L.val rfl (ev_loadN (vs := fallL (-1) (-1) 0 0) rfl rfl rfl rfl) (rowAll rfl) ?_
  refine L.op rfl (o_call rfl rfl rfl hE (o1_poll hDσ1 (by omega)) (Ent.refl _) ?_)
  rintro v m ⟨rfl, rfl⟩
  refine At.app5 ?_
  obtain ⟨σ2, hnσ2⟩ : ∃ σ, σ = noted σ1 FK.J0 2 0 := ⟨_, rfl⟩
  rw [← hnσ2]
  have hDσ2 : FK.Dk 200000 σ2 := hnσ2 ▸ dk_noted hDσ1 FK.J0 2 (by decide)
  refine L.mv rfl rfl ?_
  refine L.ex rfl rfl rfl ?_
  refine L.ex rfl rfl rfl ?_
  refine L.ex rfl rfl rfl ?_
  refine L.op rfl (o_alloc (z := .agg #[.int .u64 0, .int .i64 0, .int .i64 0, .int .u64 0]) rfl rfl fun b10 => ?_)
  refine L.op rfl (o_storeN rfl (m := 4) (vs := taskL 1 0 1 1) rfl rfl rfl rfl (by simp [Value.oneCell']) (by show 0 + 4 ≤ 4; omega) ?_)
  refine At.blkAs b10 (taskL 1 0 1 1).toArray rfl ?_
  refine At.ent (l' := hostP h d f :: fkB f e j :: engX e p' FK.o2 :: jrnlAt j d FK.J0 :: diskAt d σ2 :: blk b10 55 (taskL 1 0 1 1).toArray :: blk b2 41 (fallL (-1) (-1) 0 0).toArray :: fr) Ent.auto ?_
  refine L.as rfl rfl ?_
  refine L.as rfl rfl ?_
  refine L.nil ?_
  refine At.then ?_
  refine At.seq ?_
  refine At.region ?_
  refine L.mv rfl rfl ?_
  refine L.val rfl (ev_loadN (vs := fallL (-1) (-1) 0 0) rfl rfl rfl rfl) (rowAll rfl) ?_
  refine L.op rfl (o_call rfl rfl rfl hE (hpoll0_does hDσ2.quiet rfl) (Ent.refl _) ?_)
  rintro v m ⟨rfl, rfl⟩
  refine At.app5 ?_
  refine L.mv rfl rfl ?_
  refine L.ex rfl rfl rfl ?_
  refine L.ex rfl rfl rfl ?_
  refine L.ex rfl rfl rfl ?_
  refine L.op rfl (o_alloc (z := .agg #[.int .u64 0, .int .i64 0, .int .i64 0, .int .u64 0]) rfl rfl fun b13 => ?_)
  refine L.op rfl (o_storeN rfl (m := 4) (vs := taskL 0 0 0 0) rfl rfl rfl rfl (by simp [Value.oneCell']) (by show 0 + 4 ≤ 4; omega) ?_)
  refine At.blkAs b13 (taskL 0 0 0 0).toArray rfl ?_
  refine At.ent (l' := hostP h d f :: fkB f e j :: engX e p' FK.o2 :: jrnlAt j d FK.J0 :: diskAt d σ2 :: blk b10 55 (taskL 1 0 1 1).toArray :: blk b2 41 (fallL (-1) (-1) 0 0).toArray :: fr) Ent.auto ?_
  refine L.as rfl rfl ?_
  refine L.as rfl rfl ?_
  refine L.nil ?_
  refine At.then ?_
  refine At.seq ?_
  refine At.region ?_
  refine L.mv rfl rfl ?_
  refine L.fa 3 rfl rfl rfl ?_
  refine L.ld rfl rfl rfl rfl ?_
  refine L.val rfl (ev_loadN (vs := fallL (-1) (-1) 0 0) rfl rfl rfl rfl) (rowAll rfl) ?_
  refine L.op rfl (o_call rfl rfl rfl hE (o2_do hDσ2 (by omega)) (Ent.refl _) ?_)
  rintro v m ⟨rfl, rfl⟩
  refine At.app5 ?_
  obtain ⟨σ3, hnσ3⟩ : ∃ σ, σ = noted σ2 FK.J0 5 1 := ⟨_, rfl⟩
  rw [← hnσ3]
  have hDσ3 : FK.Dk 300000 σ3 := hnσ3 ▸ dk_noted hDσ2 FK.J0 5 (by decide)
  refine L.as rfl rfl ?_
  refine L.nil ?_
  refine At.then ?_
  refine At.seq ?_
  refine At.region ?_
  refine L.mv rfl rfl ?_
  refine L.val rfl (ev_loadN (vs := fallL (-1) (-1) 0 0) rfl rfl rfl rfl) (rowAll rfl) ?_
  refine L.op rfl (o_call rfl rfl rfl hE (o3_tick hDσ3 (by omega)) (Ent.refl _) ?_)
  rintro v m ⟨rfl, rfl⟩
  refine At.app5 ?_
  obtain ⟨σ4, hnσ4⟩ : ∃ σ, σ = noted σ3 FK.J0 7 3 := ⟨_, rfl⟩
  rw [← hnσ4]
  have hDσ4 : FK.Dk 400000 σ4 := hnσ4 ▸ dk_noted hDσ3 FK.J0 7 (by decide)
  refine L.as rfl rfl ?_
  refine L.nil ?_
  refine At.then ?_
  refine At.seq ?_
  refine At.region ?_
  refine L.mv rfl rfl ?_
  refine L.val rfl (ev_loadN (vs := fallL (-1) (-1) 0 0) rfl rfl rfl rfl) (rowAll rfl) ?_
  refine L.op rfl (o_call rfl rfl rfl hE (o4_poll hDσ4 (by omega)) (Ent.refl _) ?_)
  rintro v m ⟨rfl, rfl⟩
  refine At.app5 ?_
  obtain ⟨σ5, hnσ5⟩ : ∃ σ, σ = noted σ4 FK.J0 2 0 := ⟨_, rfl⟩
  rw [← hnσ5]
  have hDσ5 : FK.Dk 500000 σ5 := hnσ5 ▸ dk_noted hDσ4 FK.J0 2 (by decide)
  refine L.mv rfl rfl ?_
  refine L.ex rfl rfl rfl ?_
  refine L.ex rfl rfl rfl ?_
  refine L.ex rfl rfl rfl ?_
  refine L.op rfl (o_alloc (z := .agg #[.int .u64 0, .int .i64 0, .int .i64 0, .int .u64 0]) rfl rfl fun b18 => ?_)
  refine L.op rfl (o_storeN rfl (m := 4) (vs := taskL 1 0 2 2) rfl rfl rfl rfl (by simp [Value.oneCell']) (by show 0 + 4 ≤ 4; omega) ?_)
  refine At.blkAs b18 (taskL 1 0 2 2).toArray rfl ?_
  refine At.ent (l' := hostP h d f :: fkB f e j :: engX e p' FK.o5 :: jrnlAt j d FK.J0 :: diskAt d σ5 :: blk b18 55 (taskL 1 0 2 2).toArray :: blk b10 55 (taskL 1 0 1 1).toArray :: blk b2 41 (fallL (-1) (-1) 0 0).toArray :: fr) Ent.auto ?_
  refine L.as rfl rfl ?_
  refine L.as rfl rfl ?_
  refine L.nil ?_
  refine At.then ?_
  refine At.seq ?_
  refine At.region ?_
  refine L.mv rfl rfl ?_
  refine L.fa 3 rfl rfl rfl ?_
  refine L.ld rfl rfl rfl rfl ?_
  refine L.val rfl (ev_loadN (vs := fallL (-1) (-1) 0 0) rfl rfl rfl rfl) (rowAll rfl) ?_
  refine L.op rfl (o_call rfl rfl rfl hE (o5_do hDσ5 (by omega)) (Ent.refl _) ?_)
  rintro v m ⟨rfl, rfl⟩
  refine At.app5 ?_
  obtain ⟨σ6, hnσ6⟩ : ∃ σ, σ = noted σ5 FK.J0 4 2 := ⟨_, rfl⟩
  rw [← hnσ6]
  have hDσ6 : FK.Dk 600000 σ6 := hnσ6 ▸ dk_noted hDσ5 FK.J0 4 (by decide)
  refine L.as rfl rfl ?_
  refine L.nil ?_
  refine At.then ?_
  refine At.seq ?_
  refine At.region ?_
  refine L.mv rfl rfl ?_
  refine L.val rfl (ev_loadN (vs := fallL (-1) (-1) 0 0) rfl rfl rfl rfl) (rowAll rfl) ?_
  refine L.op rfl (o_call rfl rfl rfl hE (o6_poll hDσ6 (by omega)) (Ent.refl _) ?_)
  rintro v m ⟨rfl, rfl⟩
  refine At.app5 ?_
  obtain ⟨σ7, hnσ7⟩ : ∃ σ, σ = noted σ6 FK.J0 2 0 := ⟨_, rfl⟩
  rw [← hnσ7]
  have hDσ7 : FK.Dk 700000 σ7 := hnσ7 ▸ dk_noted hDσ6 FK.J0 2 (by decide)
  refine L.mv rfl rfl ?_
  refine L.ex rfl rfl rfl ?_
  refine L.ex rfl rfl rfl ?_
  refine L.ex rfl rfl rfl ?_
  refine L.op rfl (o_alloc (z := .agg #[.int .u64 0, .int .i64 0, .int .i64 0, .int .u64 0]) rfl rfl fun b22 => ?_)
  refine L.op rfl (o_storeN rfl (m := 4) (vs := taskL 1 1 1 3) rfl rfl rfl rfl (by simp [Value.oneCell']) (by show 0 + 4 ≤ 4; omega) ?_)
  refine At.blkAs b22 (taskL 1 1 1 3).toArray rfl ?_
  refine At.ent (l' := hostP h d f :: fkB f e j :: engX e p' FK.o7 :: jrnlAt j d FK.J0 :: diskAt d σ7 :: blk b22 55 (taskL 1 1 1 3).toArray :: blk b18 55 (taskL 1 0 2 2).toArray :: blk b10 55 (taskL 1 0 1 1).toArray :: blk b2 41 (fallL (-1) (-1) 0 0).toArray :: fr) Ent.auto ?_
  refine L.as rfl rfl ?_
  refine L.as rfl rfl ?_
  refine L.nil ?_
  refine At.then ?_
  refine At.seq ?_
  refine At.region ?_
  refine L.mv rfl rfl ?_
  refine L.fa 3 rfl rfl rfl ?_
  refine L.ld rfl rfl rfl rfl ?_
  refine L.val rfl (ev_loadN (vs := fallL (-1) (-1) 0 0) rfl rfl rfl rfl) (rowAll rfl) ?_
  refine L.op rfl (o_call rfl rfl rfl hE (o7_do hDσ7 (by omega)) (Ent.refl _) ?_)
  rintro v m ⟨rfl, rfl⟩
  refine At.app5 ?_
  obtain ⟨σ8, hnσ8⟩ : ∃ σ, σ = noted σ7 FK.J0 4 3 := ⟨_, rfl⟩
  rw [← hnσ8]
  have hDσ8 : FK.Dk 800000 σ8 := hnσ8 ▸ dk_noted hDσ7 FK.J0 4 (by decide)
  refine L.as rfl rfl ?_
  refine L.nil ?_
  refine At.then ?_
  refine At.seq ?_
  refine At.region ?_
  refine L.mv rfl rfl ?_
  refine L.mv rfl rfl ?_
  refine L.op rfl (o_call rfl rfl rfl hE (hquery1_does (id := 1) (R := FK.rn2 2 ⟨5, 2, 0⟩ ⟨5, 1, 0⟩ 1) FK.o8_ok rfl) (Ent.refl _) ?_)
  rintro v m ⟨A2, c2, A3, c3, rfl, rfl⟩
  refine At.app7 ?_
  refine L.mv rfl rfl ?_
  refine L.ex rfl rfl rfl ?_
  refine L.ex rfl rfl rfl ?_
  refine L.op rfl (o_alloc (z := .agg #[.int .u64 0, .int .i64 0, .slice none 0 0, .slice none 0 0]) rfl rfl fun b26 => ?_)
  refine L.op rfl (o_storeN rfl (m := 4) (vs := infoL 1 2 (.slice A2 2 c2) (.slice A3 2 c3)) rfl rfl rfl rfl (by simp [Value.oneCell']) (by show 0 + 4 ≤ 4; omega) ?_)
  refine At.blkAs b26 (infoL 1 2 (.slice A2 2 c2) (.slice A3 2 c3)).toArray rfl ?_
  refine L.as rfl rfl ?_
  refine L.nil ?_
  refine At.then ?_
  refine At.seq ?_
  refine At.seq ?_
  refine At.region ?_
  refine L.mv rfl rfl ?_
  refine L.pure rfl (ev_neq rfl rfl rfl) ?_
  refine L.mv rfl rfl ?_
  refine L.on rfl rfl rfl (L.vala rfl (ev_move rfl) (fun _ _ => trivial) ?_)
  refine L.on rfl rfl rfl (L.vala rfl (ev_neq rfl rfl rfl) (fun _ _ => trivial) ?_)
  refine L.pure rfl (ev_pick rfl rfl rfl) ?_
  refine L.mv rfl rfl ?_
  refine L.on rfl rfl rfl (L.vala rfl (ev_move rfl) (fun _ _ => trivial) ?_)
  refine L.on rfl rfl rfl (L.vala rfl (ev_neq rfl rfl rfl) (fun _ _ => trivial) ?_)
  refine L.pure rfl (ev_pick rfl rfl rfl) ?_
  refine L.mv rfl rfl ?_
  refine L.on rfl rfl rfl (L.vala rfl (ev_move rfl) (fun _ _ => trivial) ?_)
  refine L.on rfl rfl rfl (L.vala rfl (ev_neq rfl rfl rfl) (fun _ _ => trivial) ?_)
  refine L.pure rfl (ev_pick rfl rfl rfl) ?_
  refine L.mv rfl rfl ?_
  refine L.on rfl rfl rfl (L.vala rfl (ev_move rfl) (fun _ _ => trivial) ?_)
  refine L.on rfl rfl rfl (L.vala rfl (ev_neq rfl rfl rfl) (fun _ _ => trivial) ?_)
  refine L.pure rfl (ev_pick rfl rfl rfl) ?_
  refine L.mv rfl rfl ?_
  refine L.on rfl rfl rfl (L.vala rfl (ev_move rfl) (fun _ _ => trivial) ?_)
  refine L.on rfl rfl rfl (L.vala rfl (ev_neq rfl rfl rfl) (fun _ _ => trivial) ?_)
  refine L.pure rfl (ev_pick rfl rfl rfl) ?_
  refine L.mv rfl rfl ?_
  refine L.on rfl rfl rfl (L.vala rfl (ev_move rfl) (fun _ _ => trivial) ?_)
  refine L.on rfl rfl rfl (L.vala rfl (ev_neq rfl rfl rfl) (fun _ _ => trivial) ?_)
  refine L.pure rfl (ev_pick rfl rfl rfl) ?_
  refine L.mv rfl rfl ?_
  refine L.on rfl rfl rfl (L.vala rfl (ev_move rfl) (fun _ _ => trivial) ?_)
  refine L.on rfl rfl rfl (L.vala rfl (ev_neq rfl rfl rfl) (fun _ _ => trivial) ?_)
  refine L.pure rfl (ev_pick rfl rfl rfl) ?_
  refine L.mv rfl rfl ?_
  refine L.on rfl rfl rfl (L.vala rfl (ev_move rfl) (fun _ _ => trivial) ?_)
  refine L.on rfl rfl rfl (L.vala rfl (ev_neq rfl rfl rfl) (fun _ _ => trivial) ?_)
  refine L.pure rfl (ev_pick rfl rfl rfl) ?_
  refine L.nil ?_
  refine At.then ?_
  refine At.condF rfl ?_
  refine At.skip ?_
  refine At.then ?_
  refine At.seq ?_
  refine At.seq ?_
  refine At.region ?_
  refine L.mv rfl rfl ?_
  refine L.pure rfl (ev_neq rfl rfl rfl) ?_
  refine L.mv rfl rfl ?_
  refine L.on rfl rfl rfl (L.vala rfl (ev_move rfl) (fun _ _ => trivial) ?_)
  refine L.on rfl rfl rfl (L.vala rfl (ev_not rfl rfl) (fun _ _ => trivial) ?_)
  refine L.pure rfl (ev_pick rfl rfl rfl) ?_
  refine L.mv rfl rfl ?_
  refine L.on rfl rfl rfl (L.vala rfl (ev_move rfl) (fun _ _ => trivial) ?_)
  refine L.pure rfl (ev_pick rfl rfl rfl) ?_
  refine L.mv rfl rfl ?_
  refine L.on rfl rfl rfl (L.vala rfl (ev_move rfl) (fun _ _ => trivial) ?_)
  refine L.on rfl rfl rfl (L.vala rfl (ev_not rfl rfl) (fun _ _ => trivial) ?_)
  refine L.pure rfl (ev_pick rfl rfl rfl) ?_
  refine L.mv rfl rfl ?_
  refine L.on rfl rfl rfl (L.vala rfl (ev_move rfl) (fun _ _ => trivial) ?_)
  refine L.on rfl rfl rfl (L.vala rfl (ev_not rfl rfl) (fun _ _ => trivial) ?_)
  refine L.pure rfl (ev_pick rfl rfl rfl) ?_
  refine L.mv rfl rfl ?_
  refine L.on rfl rfl rfl (L.vala rfl (ev_field (off := 1) rfl rfl) (fun _ _ => trivial) ?_)
  refine L.on rfl rfl rfl (L.vala rfl (ev_load1 rfl rfl) (cellIs rfl) ?_)
  refine L.on rfl rfl rfl (L.vala rfl (ev_neq rfl rfl rfl) (fun _ _ => trivial) ?_)
  refine L.pure rfl (ev_pick rfl rfl rfl) ?_
  refine L.mv rfl rfl ?_
  refine L.on rfl rfl rfl (L.vala rfl (ev_field (off := 2) rfl rfl) (fun _ _ => trivial) ?_)
  refine L.on rfl rfl rfl (L.vala rfl (ev_load1 rfl rfl) (cellIs rfl) ?_)
  refine L.on rfl rfl rfl (L.vala rfl (ev_neq rfl rfl rfl) (fun _ _ => trivial) ?_)
  refine L.pure rfl (ev_pick rfl rfl rfl) ?_
  refine L.mv rfl rfl ?_
  refine L.on rfl rfl rfl (L.vala rfl (ev_field (off := 1) rfl rfl) (fun _ _ => trivial) ?_)
  refine L.on rfl rfl rfl (L.vala rfl (ev_load1 rfl rfl) (cellIs rfl) ?_)
  refine L.on rfl rfl rfl (L.vala rfl (ev_neq rfl rfl rfl) (fun _ _ => trivial) ?_)
  refine L.pure rfl (ev_pick rfl rfl rfl) ?_
  refine L.mv rfl rfl ?_
  refine L.on rfl rfl rfl (L.vala rfl (ev_field (off := 2) rfl rfl) (fun _ _ => trivial) ?_)
  refine L.on rfl rfl rfl (L.vala rfl (ev_load1 rfl rfl) (cellIs rfl) ?_)
  refine L.on rfl rfl rfl (L.vala rfl (ev_neq rfl rfl rfl) (fun _ _ => trivial) ?_)
  refine L.pure rfl (ev_pick rfl rfl rfl) ?_
  refine L.mv rfl rfl ?_
  refine L.on rfl rfl rfl (L.vala rfl (ev_field (off := 3) rfl rfl) (fun _ _ => trivial) ?_)
  refine L.on rfl rfl rfl (L.vala rfl (ev_load1 rfl rfl) (cellIs rfl) ?_)
  refine L.on rfl rfl rfl (L.vala rfl (ev_field (off := 3) rfl rfl) (fun _ _ => trivial) ?_)
  refine L.on rfl rfl rfl (L.vala rfl (ev_load1 rfl rfl) (cellIs rfl) ?_)
  refine L.on rfl rfl rfl (L.vala rfl (ev_eql rfl rfl rfl) (fun _ _ => trivial) ?_)
  refine L.pure rfl (ev_pick rfl rfl rfl) ?_
  refine L.mv rfl rfl ?_
  refine L.on rfl rfl rfl (L.vala rfl (ev_field (off := 1) rfl rfl) (fun _ _ => trivial) ?_)
  refine L.on rfl rfl rfl (L.vala rfl (ev_load1 rfl rfl) (cellIs rfl) ?_)
  refine L.on rfl rfl rfl (L.vala rfl (ev_neq rfl rfl rfl) (fun _ _ => trivial) ?_)
  refine L.pure rfl (ev_pick rfl rfl rfl) ?_
  refine L.mv rfl rfl ?_
  refine L.on rfl rfl rfl (L.vala rfl (ev_field (off := 1) rfl rfl) (fun _ _ => trivial) ?_)
  refine L.on rfl rfl rfl (L.vala rfl (ev_load1 rfl rfl) (cellIs rfl) ?_)
  refine L.on rfl rfl rfl (L.vala rfl (ev_neq rfl rfl rfl) (fun _ _ => trivial) ?_)
  refine L.pure rfl (ev_pick rfl rfl rfl) ?_
  refine L.nil ?_
  refine At.then ?_
  refine At.condF rfl ?_
  refine At.skip ?_
  refine At.then ?_
  refine At.seq ?_
  refine At.region ?_
  refine L.mv rfl rfl ?_
  refine L.as rfl rfl ?_
  refine L.nil ?_
  refine At.then ?_
  refine At.ret ?_
  refine At.ret1 (hostL h f e j d p' FK.o8 FK.J0 σ8) rfl rfl ⟨h, f, e, j, d, p', σ8, rfl, ⟨hDσ8.quiet, by have := hDσ8.now; omega, by have := hDσ8.dur; omega⟩, rfl⟩ ?_
  show Ent _ (hostP h d f :: fkB f e j :: engX e p' FK.o8 :: jrnlAt j d FK.J0 :: diskAt d σ8 :: fr)
  exact Ent.auto
end Go.Proofs.YtmeegfamopaljaaGreatDoor

namespace Go.Proofs.YtmeegfamopaljaaGreatDoor
open Go Go.RowKit Go.SL
variable {G : Env → Prop}
set_option maxRecDepth 10000 in
theorem keep_pick (c : Int) (n : Nat) (hc : i64 c) (hn : 0 < n) (hn2 : n < 9223372036854775808) : Does Tryz.prog G 19 [.int .i64 c, .int .i64 n].toArray [] fun v m => ∃ k : Int, v = .int .i64 k ∧ (0 ≤ k ∧ k < n) ∧ m = [] := by
  have hc' := hc
  unfold i64 at hc'
  refine Does.body Tryz.func19 rfl rfl fun E fr hE => ?_
  refine At.app0 ?_
  refine At.seq ?_
  refine At.region ?_
  refine L.as rfl rfl ?_
  refine L.nil ?_
  refine At.then ?_
  refine At.seq (At.cut (X := Int) (fun x => [(0, .int .i64 x), (1, .int .i64 n)]) (fun _ => fr) (fun x => 0 ≤ x) ?_ ?_)
  ·
    refine At.seq ?_
    refine At.region ?_
    refine L.mv rfl rfl ?_
    refine L.pure rfl (ev_lss rfl rfl rfl) ?_
    refine L.nil ?_
    refine At.then ?_
    refine At.condD rfl (fun c6 => ?_) (fun c6 => ?_)
    ·
      refine At.region ?_
      refine L.mv rfl rfl ?_
      refine L.pure rfl (ev_add rfl rfl (w64 (by omega))) ?_
      refine L.pure rfl (ev_neg rfl (w64 (by omega))) ?_
      refine L.as rfl rfl ?_
      refine L.nil ?_
      exact At.meet _ (by omega) ⟨rfl, rfl, trivial⟩ (Ent.refl _)
    ·
      refine At.skip ?_
      exact At.meet c (by omega) ⟨rfl, rfl, trivial⟩ (Ent.refl _)
  intro x hx
  refine At.seq ?_
  refine At.region ?_
  refine L.mv rfl rfl ?_
  refine L.mv rfl rfl ?_
  refine L.pure rfl (ev_rem rfl rfl (by omega) rfl) ?_
  refine L.as rfl rfl ?_
  refine L.nil ?_
  refine At.then ?_
  refine At.ret ?_
  exact At.ret1 [] rfl rfl ⟨_, rfl, ⟨Int.tmod_nonneg _ hx, Int.tmod_lt_of_pos _ (by omega)⟩, rfl⟩ (Ent.refl _)
set_option maxRecDepth 10000 in
theorem keep_nth (A : Option Addr) (c : Nat) (xs : List Int) (i : Nat) (hi : i < 9223372036854775808) : Gives Tryz.prog G 23 [.slice A xs.length c, .int .i64 i].toArray (fun w => IntsAt w w.heap.size A c xs) fun v m => ∃ x : Int, v = .int .i64 x ∧ i64 x ∧ m = [] := by
  refine Gives.body Tryz.func23 rfl rfl fun E w0 hE h0 hN => ?_
  refine At.seq ?_
  refine At.region ?_
  refine L.as rfl rfl ?_
  refine L.nil ?_
  refine At.then ?_
  refine At.seq ?_
  refine At.seq ?_
  refine At.region ?_
  refine L.mv rfl rfl ?_
  refine L.mv rfl rfl ?_
  refine L.pure rfl (ev_lenS rfl rfl) ?_
  refine L.pure rfl (ev_lss rfl rfl rfl) ?_
  refine L.nil ?_
  refine At.then ?_
  refine At.condD rfl (fun c8 => ?_) (fun c8 => ?_)
  ·
    have hlt : i < xs.length := by omega
    obtain ⟨b, o, rfl, hb, hcell⟩ := hN.cells (by omega)
    obtain ⟨x, hx⟩ : ∃ x, xs[i]? = some x := ⟨xs[i], by simp [hlt]⟩
    refine At.seq ?_
    refine At.region ?_
    refine L.mv rfl rfl ?_
    refine L.mv rfl rfl ?_
    refine L.pure rfl (ev_ixN (z := 1) rfl rfl rfl rfl hlt) ?_
    refine L.val rfl (ev_load1 rfl rfl) (cellOld .head h0 (by simpa using hcell i x hx)) ?_
    refine L.as rfl rfl ?_
    refine L.nil ?_
    refine At.then ?_
    refine At.ret ?_
    refine At.thenRet ?_
    exact At.ret1 [] rfl rfl ⟨x, rfl, hN.rng x (List.mem_of_getElem? hx), rfl⟩ (Ent.refl _)
  ·
    refine At.skip ?_
    refine At.then ?_
    refine At.seq ?_
    refine At.region ?_
    refine L.as rfl rfl ?_
    refine L.nil ?_
    refine At.then ?_
    refine At.ret ?_
    exact At.ret1 [] rfl rfl ⟨0, rfl, by unfold i64; omega, rfl⟩ (Ent.refl _)
theorem intsLater {E : Env} {l r : List HP} {w0 : World} {B : Nat} {A : Option Addr} {c : Nat} {xs : List Int} (s : Sel (old E w0) l r) (h0 : E.is w0) (h : IntsAt w0 B A c xs) (hB : B ≤ w0.heap.size) : ∀ w, Holds E w l → IntsAt w w.heap.size A c xs :=
  oldAt s h0 fun _ hb => (h.keep (hb.to_same.mono hB)).more (Nat.le_trans hB hb.size)
end Go.Proofs.YtmeegfamopaljaaGreatDoor
