/- The walks of flowkeeper.Decode and plain.Decode. -/
import Derived.Test.YtagkobkmaigfcaaDoorEnc3
namespace Go.Proofs.YtagkobkmaigfcaaDoor
open Go Go.RowKit Go.SL

theorem Reads.row {A : Option Addr} {c : Nat} {bs : List UInt8} (h : bs ≠ [] → ∃ g, A = some ⟨g, 0, none⟩) : Reads (bytesAt (.slice A bs.length c) bs) A bs where
  form hb := let ⟨g, h⟩ := h hb; ⟨g, 0, h⟩
  cell w F hp b o hA j x hx := by
    obtain ⟨hown, _⟩ := hp
    obtain ⟨g, hg⟩ := h (by intro h; simp [h] at hx)
    rw [hA] at hg
    injection hg with hg
    injection hg with h1 h2
    subst h1; subst h2; subst hA
    have := hown.cells (g := b) rfl j (.int .u8 x.toNat) (by simp [bytesV, hx])
    rwa [add_plain] at this

theorem ReadPost.form {bs : List UInt8} {p : HP} {v : Value} {m : List HP} (h : ReadPost bs p v m) : ∃ x y z, v = .tuple #[.agg #[x, y], z] ∧ x.oneCell' = true ∧ y.oneCell' = true ∧ z.oneCell' = true := by
  rcases h with ⟨f, A', c', _, _, rfl, _⟩ | ⟨e, a, b, _, _, rfl, _⟩
  · exact ⟨_, _, _, rfl, rfl, rfl, rfl⟩
  · exact ⟨_, _, _, rfl, rfl, rfl, rfl⟩

set_option maxRecDepth 10000 in
theorem fk_decode {p : HP} {A : Option Addr} {c : Nat} {bs : List UInt8} (hp : Reads p A bs) (hl : bs.length ≤ 1099511627776) : Does Tryd.prog Good 37 [.slice A bs.length c].toArray [p] (ReadPost bs p) := by
  refine Does.body Tryd.func37 rfl rfl fun E fr hE => ?_
  refine At.app1 ?_
  refine At.seq ?_
  refine At.region ?_
  refine L.op rfl (o_alloc (z := .agg #[.int .i64 0, .slice none 0 0]) rfl rfl fun b2 => ?_)
  refine L.as rfl rfl ?_
  refine L.nil ?_
  refine At.then ?_
  refine At.seq ?_
  refine At.region ?_
  refine L.mv rfl rfl ?_
  refine L.op rfl (o_call rfl rfl rfl hE (read_does hp hl) (Ent.sel (.tail (.head))) ?_)
  rintro v m hv
  obtain ⟨x, y, z, rfl, hx, hy, hz⟩ := hv.form
  refine At.ent (Ent.perm List.perm_middle) ?_
  refine L.ex rfl rfl rfl ?_
  refine L.ex rfl rfl rfl ?_
  refine L.op rfl (o_storeN rfl (m := 2) (vs := [x, y]) rfl rfl rfl rfl (by simp [hx, hy]) (by simp [Value.cells]) ?_)
  refine L.as rfl rfl ?_
  refine L.nil ?_
  refine At.then ?_
  refine At.ret ?_
  exact At.res2 m rfl (Res.cellN (vs := [x, y]) rfl rfl rfl rfl (rowAll rfl)) (Res.tmp rfl) hv Ent.drop

theorem ReadPost.ok {bs : List UInt8} {p : HP} {v : Value} {m : List HP} {f : FK.Flow} (h : ReadPost bs p v m) (hd : FK.dec bs = .ok f) : ∃ A' c', (∀ nd ∈ f.nodes, Small nd) ∧ v = .tuple #[.agg #[.int .i64 f.deadline, .slice A' f.nodes.length c'], .nilIface] ∧ m = [nodesOwn (.slice A' f.nodes.length c') f.nodes, p] := by
  rcases h with ⟨f', A', c', h1, h2, h3, h4⟩ | ⟨e, a, b, h1, _⟩
  · rw [hd] at h1
    injection h1 with h1
    subst h1
    exact ⟨A', c', h2, h3, h4⟩
  · rw [hd] at h1; cases h1
theorem ReadPost.bad {bs : List UInt8} {p : HP} {v : Value} {m : List HP} {e a : Int} (h : ReadPost bs p v m) (hd : FK.dec bs = .error (e, a)) : ∃ b, e ≠ 0 ∧ v = .tuple #[.agg #[.int .i64 0, .slice none 0 0], .iface 95 (.pointer (some ⟨b, 0, none⟩))] ∧ m = [blk b 100 #[.int .i64 e, .int .i64 a], p] := by
  rcases h with ⟨f', A', c', h1, h2, h3, h4⟩ | ⟨e, a, b, h1, h2, h3, h4⟩
  · rw [hd] at h1; cases h1
  · rw [hd] at h1
    injection h1 with h1
    injection h1 with h1 h5
    subst h1; subst h5
    exact ⟨b, h2, h3, h4⟩

/-- what Decode comes to, told -/
def DecPost (bs : List UInt8) (p : HP) (v : Value) (m : List HP) : Prop :=
  (∃ (f : FK.Flow) (A' : Option Addr) (c' : Nat), FK.dec bs = .ok f ∧ (∀ nd ∈ f.nodes, Small nd) ∧ v = .tuple #[.agg #[.int .i64 f.deadline, .slice A' f.nodes.length c'], .int .i64 0, .int .i64 (-1)] ∧ m = [nodesOwn (.slice A' f.nodes.length c') f.nodes, p]) ∨
  (∃ (e a : Int), FK.dec bs = .error (e, a) ∧ e ≠ 0 ∧ v = .tuple #[.agg #[.int .i64 0, .slice none 0 0], .int .i64 e, .int .i64 a] ∧ m = [p])

theorem Reads.src {E : Env} {p : HP} {A : Option Addr} {bs : List UInt8} {l r : List HP} (h : Reads p A bs) (s : Sel p l r) : ∀ w, Holds E w l → SrcIs A (bytesV bs) w := fun w hw ad had j u hj => by
  simp only [bytesV, List.getElem?_map, Option.map_eq_some_iff] at hj
  obtain ⟨x, hx, rfl⟩ := hj
  obtain ⟨b, o, hA⟩ := h.form (by intro h; simp [h] at hx)
  have := h.at s hA hx w hw
  rw [had] at hA
  injection hA with hA
  subst hA
  rw [add_plain]
  exact this

set_option maxRecDepth 10000 in
theorem plain_decode {p : HP} {A : Option Addr} {c : Nat} {bs : List UInt8} (hp : Reads p A bs) (hl : bs.length ≤ 1099511627776) : Does Tryd.prog Good 18 [.slice A bs.length c].toArray [p] (DecPost bs p) := by
  refine Does.body Tryd.func18 rfl rfl fun E fr hE => ?_
  refine At.app1 ?_
  refine At.seq ?_
  refine At.region ?_
  refine L.op rfl (o_alloc (z := .agg #[.int .i64 0, .slice none 0 0]) rfl rfl fun b2 => ?_)
  refine L.as rfl rfl ?_
  refine L.as rfl rfl ?_
  refine L.nil ?_
  refine At.then ?_
  refine At.seq ?_
  refine At.region ?_
  refine L.mv rfl rfl ?_
  refine At.ent (Ent.row0 (e := 5) (size := 1)) ?_
  refine L.op rfl (o_append (k := 0) (xs := []) rfl rfl infoByte rfl (by omega) rfl rfl .head (news := bytesV bs) (by simp [bytesV]) (fun h => by rcases List.eq_nil_or_concat bs with h2 | ⟨_, _, h2⟩; simp [h2]; obtain ⟨_, _, h3⟩ := hp.form (by simp [h2]); rw [h] at h3; cases h3) (hp.src (.tail (.tail (.head)))) (by simp [bytesV, Value.oneCell']) (by unfold maxLen; omega) (by omega) fun v12 hv12 => ?_)
  simp only [Nat.zero_add, List.nil_append]
  refine At.formRow .head ?_
  rintro A5 c5 rfl hn5 hf5 h51 h52 _
  have h53 : c5 ≤ 9223372036854775807 := by unfold maxLen at h52; omega
  have hp5 : Reads (bytesAt (.slice A5 bs.length c5) bs) A5 bs := Reads.row fun hne => by
    cases A5 with
    | none => exact absurd (List.eq_nil_of_length_eq_zero (hn5 rfl).1) hne
    | some ad => obtain ⟨g, rfl⟩ := hf5 ad rfl; exact ⟨g, rfl⟩
  refine L.as rfl rfl ?_
  refine L.nil ?_
  refine At.then ?_
  refine At.seq ?_
  by_cases hd : ∃ f, FK.dec bs = .ok f
  ·
    obtain ⟨f, hd⟩ := hd
    refine At.region ?_
    refine L.mv rfl rfl ?_
    refine L.op rfl (o_call rfl rfl rfl hE (fk_decode hp5 hl) (Ent.sel .head) ?_)
    rintro v m hv
    obtain ⟨A', c', hsm, rfl, rfl⟩ := hv.ok hd
    refine At.app2 ?_
    refine L.mv rfl rfl ?_
    refine L.ex rfl rfl rfl ?_
    refine L.ex rfl rfl rfl ?_
    refine L.op rfl (o_alloc (z := .agg #[.int .i64 0, .slice none 0 0]) rfl rfl fun b6 => ?_)
    refine L.op rfl (o_storeN rfl (m := 2) (vs := [.int .i64 f.deadline, .slice A' f.nodes.length c']) rfl rfl rfl rfl (by simp [Value.oneCell']) (by simp [Value.cells]) ?_)
    refine L.as rfl rfl ?_
    refine L.nil ?_
    refine At.then ?_
    refine At.seq ?_
    refine At.seq ?_
    refine At.region ?_
    refine L.mv rfl rfl ?_
    refine L.pure rfl (ev_lenS rfl rfl) ?_
    refine L.mv rfl rfl ?_
    refine L.nil ?_
    refine At.then ?_
    refine At.block ?_
    refine At.loop (X := Nat × List Value) (fun x => [(20, .int .i64 x.1), (19, .int .i64 bs.length), (5, .slice A5 bs.length c5), (6, .pointer (some ⟨b6, 0, none⟩)), (7, .nilIface), (2, .pointer (some ⟨b2, 0, none⟩))]) (fun x => row 5 1 (.slice A5 bs.length c5) bs.length x.2 :: blk b6 24 #[.int .i64 f.deadline, .slice A' f.nodes.length c'] :: nodesOwn (.slice A' f.nodes.length c') f.nodes :: blk b2 24 #[.int .i64 0, .slice none 0 0] :: p :: fr) (fun x => x.1 ≤ bs.length) (fun x => bs.length - x.1) (0, bytesV bs) (by omega) ⟨rfl, rfl, rfl, rfl, rfl, rfl, trivial⟩ (Ent.sel (.tail (.tail (.head)))) ?_
    rintro ⟨k, ys⟩ hk
    simp only at hk ⊢
    refine At.seq ?_
    refine At.region ?_
    refine L.pure rfl (ev_lss rfl rfl rfl) ?_
    refine L.nil ?_
    refine At.then ?_
    refine At.seq ?_
    refine At.condD rfl (fun c21 => ?_) (fun c21 => ?_)
    ·
      have hlt : k < bs.length := by omega
      obtain ⟨g, rfl⟩ : ∃ g, A5 = some ⟨g, 0, none⟩ := by
        cases A5 with
        | none => have := (hn5 rfl).1; omega
        | some ad => obtain ⟨g, rfl⟩ := hf5 ad rfl; exact ⟨g, rfl⟩
      refine At.skip ?_
      refine At.then ?_
      refine At.seq ?_
      refine At.block ?_
      refine At.seq ?_
      refine At.region ?_
      refine L.mv rfl rfl ?_
      refine L.as rfl rfl ?_
      refine L.nil ?_
      refine At.then ?_
      refine At.region ?_
      refine L.mv rfl rfl ?_
      refine L.mv rfl rfl ?_
      refine L.pure rfl (ev_ixN (z := 1) rfl rfl rfl rfl hlt) ?_
      refine L.op rfl (o_storeRow .head rfl rfl rfl rfl (by omega) ?_)
      refine L.nil ?_
      refine At.inBlock (At.then ?_)
      refine At.region ?_
      refine L.pure rfl (ev_add rfl rfl (w64 (by omega))) ?_
      refine L.mv rfl rfl ?_
      refine L.nil ?_
      exact At.round (k + 1, _) (by simp only; omega) (by simp only; omega) ⟨rfl, rfl, rfl, rfl, rfl, rfl, trivial⟩ (Ent.refl _)
    ·
      refine At.exit ?_
      refine At.thenExit (At.roundExit (At.inBlockHit (At.then ?_)))
      refine At.seq ?_
      refine At.region ?_
      refine L.mv rfl rfl ?_
      refine L.op rfl (o_call rfl rfl rfl hE told_nil (Ent.refl _) ?_)
      rintro v m ⟨rfl, rfl⟩
      refine At.app0 ?_
      refine L.mv rfl rfl ?_
      refine L.ex rfl rfl rfl ?_
      refine L.ex rfl rfl rfl ?_
      refine L.as rfl rfl ?_
      refine L.as rfl rfl ?_
      refine L.nil ?_
      refine At.then ?_
      refine At.seq ?_
      refine At.region ?_
      refine L.val rfl (ev_loadN (vs := [.int .i64 f.deadline, .slice A' f.nodes.length c']) rfl rfl rfl rfl) (rowAll rfl) ?_
      refine L.mv rfl rfl ?_
      refine L.mv rfl rfl ?_
      refine L.op rfl (o_storeN rfl (m := 2) (vs := [.int .i64 f.deadline, .slice A' f.nodes.length c']) rfl rfl rfl rfl (by simp [Value.oneCell']) (by simp) ?_)
      refine L.as rfl rfl ?_
      refine L.as rfl rfl ?_
      refine L.nil ?_
      refine At.then ?_
      refine At.ret ?_
      exact At.res3 [_, _] rfl (Res.cellN (vs := [.int .i64 f.deadline, .slice A' f.nodes.length c']) rfl rfl rfl rfl (rowAll rfl)) (Res.tmp rfl) (Res.tmp rfl) (.inl ⟨f, A', c', hd, hsm, rfl, rfl⟩) (Ent.drop.trans (Ent.drop.trans Ent.drop))
  ·
    obtain ⟨e, a, hd⟩ : ∃ e a, FK.dec bs = .error (e, a) := by
      cases h : FK.dec bs with
      | ok f => exact absurd ⟨f, h⟩ hd
      | error x => exact ⟨x.1, x.2, rfl⟩
    refine At.region ?_
    refine L.mv rfl rfl ?_
    refine L.op rfl (o_call rfl rfl rfl hE (fk_decode hp5 hl) (Ent.sel .head) ?_)
    rintro v m hv
    obtain ⟨b, he0, rfl, rfl⟩ := hv.bad hd
    refine At.app2 ?_
    refine L.mv rfl rfl ?_
    refine L.ex rfl rfl rfl ?_
    refine L.ex rfl rfl rfl ?_
    refine L.op rfl (o_alloc (z := .agg #[.int .i64 0, .slice none 0 0]) rfl rfl fun b6 => ?_)
    refine L.op rfl (o_storeN rfl (m := 2) (vs := [.int .i64 0, .slice none 0 0]) rfl rfl rfl rfl (by simp [Value.oneCell']) (by simp [Value.cells]) ?_)
    refine L.as rfl rfl ?_
    refine L.nil ?_
    refine At.then ?_
    refine At.seq ?_
    refine At.seq ?_
    refine At.region ?_
    refine L.mv rfl rfl ?_
    refine L.pure rfl (ev_lenS rfl rfl) ?_
    refine L.mv rfl rfl ?_
    refine L.nil ?_
    refine At.then ?_
    refine At.block ?_
    refine At.loop (X := Nat × List Value) (fun x => [(20, .int .i64 x.1), (19, .int .i64 bs.length), (5, .slice A5 bs.length c5), (6, .pointer (some ⟨b6, 0, none⟩)), (7, .iface 95 (.pointer (some ⟨b, 0, none⟩))), (2, .pointer (some ⟨b2, 0, none⟩))]) (fun x => row 5 1 (.slice A5 bs.length c5) bs.length x.2 :: blk b6 24 #[.int .i64 0, .slice none 0 0] :: blk b 100 #[.int .i64 e, .int .i64 a] :: blk b2 24 #[.int .i64 0, .slice none 0 0] :: p :: fr) (fun x => x.1 ≤ bs.length) (fun x => bs.length - x.1) (0, bytesV bs) (by omega) ⟨rfl, rfl, rfl, rfl, rfl, rfl, trivial⟩ (Ent.sel (.tail (.tail (.head)))) ?_
    rintro ⟨k, ys⟩ hk
    simp only at hk ⊢
    refine At.seq ?_
    refine At.region ?_
    refine L.pure rfl (ev_lss rfl rfl rfl) ?_
    refine L.nil ?_
    refine At.then ?_
    refine At.seq ?_
    refine At.condD rfl (fun c21 => ?_) (fun c21 => ?_)
    ·
      have hlt : k < bs.length := by omega
      obtain ⟨g, rfl⟩ : ∃ g, A5 = some ⟨g, 0, none⟩ := by
        cases A5 with
        | none => have := (hn5 rfl).1; omega
        | some ad => obtain ⟨g, rfl⟩ := hf5 ad rfl; exact ⟨g, rfl⟩
      refine At.skip ?_
      refine At.then ?_
      refine At.seq ?_
      refine At.block ?_
      refine At.seq ?_
      refine At.region ?_
      refine L.mv rfl rfl ?_
      refine L.as rfl rfl ?_
      refine L.nil ?_
      refine At.then ?_
      refine At.region ?_
      refine L.mv rfl rfl ?_
      refine L.mv rfl rfl ?_
      refine L.pure rfl (ev_ixN (z := 1) rfl rfl rfl rfl hlt) ?_
      refine L.op rfl (o_storeRow .head rfl rfl rfl rfl (by omega) ?_)
      refine L.nil ?_
      refine At.inBlock (At.then ?_)
      refine At.region ?_
      refine L.pure rfl (ev_add rfl rfl (w64 (by omega))) ?_
      refine L.mv rfl rfl ?_
      refine L.nil ?_
      exact At.round (k + 1, _) (by simp only; omega) (by simp only; omega) ⟨rfl, rfl, rfl, rfl, rfl, rfl, trivial⟩ (Ent.refl _)
    ·
      refine At.exit ?_
      refine At.thenExit (At.roundExit (At.inBlockHit (At.then ?_)))
      refine At.seq ?_
      refine At.region ?_
      refine L.mv rfl rfl ?_
      refine L.op rfl (o_call rfl rfl rfl hE (told_fault b e a) (Ent.sel (.tail (.tail (.head)))) ?_)
      rintro v m ⟨rfl, rfl⟩
      refine At.app1 ?_
      refine L.mv rfl rfl ?_
      refine L.ex rfl rfl rfl ?_
      refine L.ex rfl rfl rfl ?_
      refine L.as rfl rfl ?_
      refine L.as rfl rfl ?_
      refine L.nil ?_
      refine At.then ?_
      refine At.seq ?_
      refine At.region ?_
      refine L.val rfl (ev_loadN (vs := [.int .i64 0, .slice none 0 0]) rfl rfl rfl rfl) (rowAll rfl) ?_
      refine L.mv rfl rfl ?_
      refine L.mv rfl rfl ?_
      refine L.op rfl (o_storeN rfl (m := 2) (vs := [.int .i64 0, .slice none 0 0]) rfl rfl rfl rfl (by simp [Value.oneCell']) (by simp) ?_)
      refine L.as rfl rfl ?_
      refine L.as rfl rfl ?_
      refine L.nil ?_
      refine At.then ?_
      refine At.ret ?_
      exact At.res3 [_] rfl (Res.cellN (vs := [.int .i64 0, .slice none 0 0]) rfl rfl rfl rfl (rowAll rfl)) (Res.tmp rfl) (Res.tmp rfl) (.inr ⟨e, a, hd, he0, rfl, rfl⟩) (Ent.drop.trans (Ent.drop.trans (Ent.drop.trans Ent.drop)))
end Go.Proofs.YtagkobkmaigfcaaDoor
