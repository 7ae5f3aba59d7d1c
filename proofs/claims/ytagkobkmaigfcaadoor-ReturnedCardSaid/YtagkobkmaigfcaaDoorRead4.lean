/- The walk of flow.Read: bytes that are a flow, or what is wrong with them. -/
import Derived.Test.YtagkobkmaigfcaaDoorRead3
import Derived.Test.YtagkobkmaigfcaaDoorCheckB
import Derived.Test.YtagkobkmaigfcaaDoorErrF
namespace Go.SL
open Go Go.RowKit
/-- a block that came behind all that was -/
theorem Holds.fresh {E : Env} {w w' : World} {l : List HP} {b : Nat} {o : Obj} (h : Holds E w l) (hb : Below w.heap.size w w') (hge : w.heap.size ≤ b) (ho : w'.heap[b]? = some o) : Holds E w' (SL.ob b o :: l) := by
  refine ⟨h.is.below hb, fun k => k = b, E.free w, fun k hk => ?_, fun k hk => ⟨Nat.lt_of_lt_of_le hk.1 hb.size, hk.2⟩, fun k hk hk' => ?_, ⟨rfl, ho⟩, h.star.loc (fun _ h => h) fun k hk => hb.block k hk.1⟩
  · subst hk
    refine ⟨(Array.getElem?_eq_some_iff.1 ho).1, fun p hp e => ?_⟩
    have := h.is.lt hp
    omega
  · have := hk'.1
    omega
end Go.SL
namespace Go.Proofs.YtagkobkmaigfcaaDoor
open Go Go.RowKit Go.SL

/-- an error with a place, or nil: what a call hands back, and the memory -/
def ErrPost (p : Int × Int) (v : Value) (m : List HP) : Prop := (p.1 = 0 ∧ v = .nilIface ∧ m = []) ∨ (p.1 ≠ 0 ∧ ∃ b, v = .iface 95 (.pointer (some ⟨b, 0, none⟩)) ∧ m = [blk b 100 #[.int .i64 p.1, .int .i64 p.2]])
theorem ErrPost.ok {p : Int × Int} {v : Value} {m : List HP} (h : ErrPost p v m) (h0 : p.1 = 0) : v = .nilIface ∧ m = [] := by
  rcases h with ⟨_, h⟩ | ⟨h, _⟩
  · exact h
  · exact absurd h0 h
theorem ErrPost.bad {p : Int × Int} {v : Value} {m : List HP} (h : ErrPost p v m) (h0 : p.1 ≠ 0) : ∃ b, v = .iface 95 (.pointer (some ⟨b, 0, none⟩)) ∧ m = [blk b 100 #[.int .i64 p.1, .int .i64 p.2]] := by
  rcases h with ⟨h, _⟩ | ⟨_, h⟩
  · exact absurd h h0
  · exact h

theorem check_gives (f : FK.Flow) (A : Option Addr) (c : Nat) : Gives Tryd.prog Good 49 [.agg #[.int .i64 f.deadline, .slice A f.nodes.length c]].toArray (fun w => NodesAt w w.heap.size A c f.nodes)
    (ErrPost (FK.chk f)) := fun E w hE hw hN =>
  (flow_Check_calls w w.heap.size A c f (Nat.le_refl _) hN (hE.tab w hw)).mono fun e w' ⟨v, he, herr, hb⟩ => by
    have h0 := (Holds.start hw)
    rcases herr with ⟨h1, rfl⟩ | ⟨h1, b, rfl, hge, ho⟩
    · exact ⟨_, [], he, .inl ⟨h1, rfl, rfl⟩, h0.below hb⟩
    · exact ⟨_, [_], he, .inr ⟨h1, b, rfl, rfl⟩, h0.fresh hb hge ho⟩

theorem dec_bad1 {bs : List UInt8} {e : Nat} (h : FK.rd bs 0 = .error e) : FK.dec bs = .error (1, (e : Int)) := by
  unfold FK.dec FK.rdFlow
  rw [rdInt_err h]
  rfl
theorem rdFlow_err {bs : List UInt8} {n q e : Nat} (h : FK.rd bs 0 = .ok (n, q)) (h2 : FK.rdList bs (FK.rdNode bs) q = .error e) : FK.dec bs = .error (1, (e : Int)) := by
  unfold FK.dec FK.rdFlow
  rw [rdInt_ok h]
  simp only [FK.andThen, h2]
theorem rdFlow_ok {bs : List UInt8} {n q q' : Nat} {ns : List FK.Node} (h : FK.rd bs 0 = .ok (n, q)) (h2 : FK.rdList bs (FK.rdNode bs) q = .ok (ns, q')) : FK.rdFlow bs 0 = .ok (⟨n, ns⟩, q') := by
  unfold FK.rdFlow
  rw [rdInt_ok h]
  simp only [FK.andThen, h2]
theorem dec_more {bs : List UInt8} {f : FK.Flow} {q : Nat} (h : FK.rdFlow bs 0 = .ok (f, q)) (hq : q < bs.length) : FK.dec bs = .error (1, (q : Int)) := by
  unfold FK.dec
  rw [h]
  simp only [hq, if_true]
theorem dec_chk {bs : List UInt8} {f : FK.Flow} {q : Nat} (h : FK.rdFlow bs 0 = .ok (f, q)) (hq : ¬ q < bs.length) (hc : (FK.chk f).1 ≠ 0) : FK.dec bs = .error ((FK.chk f).1, (FK.chk f).2) := by
  unfold FK.dec
  rw [h]
  simp only [hq, if_false, hc]
theorem dec_good {bs : List UInt8} {f : FK.Flow} {q : Nat} (h : FK.rdFlow bs 0 = .ok (f, q)) (hq : ¬ q < bs.length) (hc : (FK.chk f).1 = 0) : FK.dec bs = .ok f := by
  unfold FK.dec
  rw [h]
  simp only [hq, if_false, hc, if_true]

variable {G : Env → Prop}

set_option maxRecDepth 10000 in
/-- what is deferred, behind a body that returned -/
theorem catch_idle (b2 b3 : Nat) (x y z : Value) : DoesD Tryd.prog G 83 [.pointer (some ⟨b2, 0, none⟩), .pointer (some ⟨b3, 0, none⟩)].toArray .returning .returning [blk b2 24 #[x, y], blk b3 71 #[z]]
    fun m => m = [blk b2 24 #[x, y], blk b3 71 #[z]] := by
  refine DoesD.recover (v := .nilIface) Tryd.func83 rfl rfl rfl (.inl ⟨rfl, rfl, rfl⟩) fun E fr hE => ?_
  refine At.app2 ?_
  refine At.block ?_
  refine At.seq ?_
  refine At.region ?_
  refine L.pure rfl (ev_eqlNil0 rfl rfl) ?_
  refine L.nil ?_
  refine At.then ?_
  refine At.condT rfl ?_
  refine At.region ?_
  refine L.as rfl rfl ?_
  refine L.nil ?_
  refine At.inBlock ?_
  exact At.end0 [_, _] rfl ⟨rfl, rfl⟩ (Ent.refl _)

set_option maxRecDepth 10000 in
/-- what is deferred, behind bytes that are no flow -/
theorem catch_cut (b2 b3 e : Nat) (x y z : Value) : DoesD Tryd.prog G 83 [.pointer (some ⟨b2, 0, none⟩), .pointer (some ⟨b3, 0, none⟩)].toArray (.panicking (cutAt e)) (.panicking [{ v := .iface 153 (.int .i64 e), recovered := true }]) [blk b2 24 #[x, y], blk b3 71 #[z]]
    fun m => ∃ b, m = [blk b2 24 #[.int .i64 0, .slice none 0 0], blk b3 71 #[.iface 95 (.pointer (some ⟨b, 0, none⟩))], blk b 100 #[.int .i64 1, .int .i64 e]] := by
  refine DoesD.recover (v := .iface 153 (.int .i64 e)) Tryd.func83 rfl rfl rfl (.inr ⟨[], rfl, rfl⟩) fun E fr hE => ?_
  refine At.app2 ?_
  refine At.block ?_
  refine At.seq ?_
  refine At.region ?_
  refine L.pure rfl (ev_eqlNil rfl rfl) ?_
  refine L.nil ?_
  refine At.then ?_
  refine At.condF rfl ?_
  refine At.seq ?_
  refine At.region ?_
  refine L.pure rfl (ev_as rfl rfl rfl) ?_
  refine L.ex rfl rfl rfl ?_
  refine L.ex rfl rfl rfl ?_
  refine L.nil ?_
  refine At.then ?_
  refine At.condT rfl ?_
  refine At.seq ?_
  refine At.region ?_
  refine L.as rfl rfl ?_
  refine L.nil ?_
  refine At.then ?_
  refine At.region ?_
  refine L.pure rfl (ev_build (ps := []) (vs := []) (cs := #[.int .i64 0, .slice none 0 0]) rfl rfl rfl rfl rfl) ?_
  refine L.mv rfl rfl ?_
  refine L.pure rfl (ev_build (ps := [(0, .const (.int .i64 1)), (1, .tmp 12)]) (vs := [.int .i64 1, .int .i64 e]) (cs := #[.int .i64 1, .int .i64 e]) rfl rfl rfl rfl rfl) ?_
  refine L.op rfl (o_box rfl rfl fun b14 => ?_)
  refine L.pure rfl (ev_iface rfl rfl rfl) ?_
  refine L.op rfl (o_storeN rfl (m := 2) (vs := [.int .i64 0, .slice none 0 0]) rfl rfl rfl rfl (by simp [Value.oneCell']) (by simp) ?_)
  refine L.st rfl rfl rfl rfl (by simp) ?_
  refine L.nil ?_
  refine At.inBlock ?_
  exact At.end0 [_, _, _] rfl ⟨rfl, b14, rfl⟩ (Ent.perm (List.Perm.swap _ _ _))
end Go.Proofs.YtagkobkmaigfcaaDoor
