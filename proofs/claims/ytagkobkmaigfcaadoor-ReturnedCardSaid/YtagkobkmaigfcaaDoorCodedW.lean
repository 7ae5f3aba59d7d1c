/- The walk of the law Coded. -/
import Derived.Test.YtagkobkmaigfcaaDoorSame
namespace Go.Proofs.YtagkobkmaigfcaaDoor
open Go Go.RowKit Go.SL

theorem encFlow_pos (f : FK.Flow) : 0 < (FK.encFlow f).length := by
  have := FK.encN_pos f.deadline.toNat
  unfold FK.encFlow
  simp only [List.length_append]
  omega

theorem encFlow_le {f : FK.Flow} (h : FK.Fit f) : (FK.encFlow f).length ≤ 700 := by
  obtain ⟨d, hd, hd1, hl, ho⟩ := Fit.enc h
  have := encTo_len (d := d) hd1 hl ho f.nodes.length
  have e : encTo d f.nodes f.nodes.length = FK.encFlow f := by
    simp [encTo, FK.encFlow, hd]
  rwa [e] at this

theorem EncPost.ok {f : FK.Flow} {v : Value} {m : List HP} (h : EncPost f v m) (h0 : (FK.chk f).1 = 0) : ∃ bv, v = .tuple #[bv, .int .i64 0, .int .i64 (-1)] ∧ m = [bytesAt bv (FK.encFlow f)] := h.elim (fun h => h.2) fun h => absurd h0 h.1
theorem EncPost.bad {f : FK.Flow} {v : Value} {m : List HP} (h : EncPost f v m) (h0 : (FK.chk f).1 ≠ 0) : v = .tuple #[.slice none 0 0, .int .i64 (FK.chk f).1, .int .i64 (FK.chk f).2] ∧ m = [] := h.elim (fun h => absurd h.1 h0) fun h => h.2

theorem bytesIs_row {E : Env} {l r : List HP} {g c : Nat} {bs : List UInt8} (s : Sel (bytesAt (.slice (some ⟨g, 0, none⟩) bs.length c) bs) l r) : ∀ w, Holds E w l → BytesIs (some ⟨g, 0, none⟩) bs w := fun w hw =>
  ⟨fun h => (by cases h), fun b o h j hj => by
    injection h with h
    injection h with h1 h2
    subst h1; subst h2
    have := (hw.row s).cells (g := g) rfl j (.int .u8 bs[j].toNat) (by simp [bytesV, hj])
    rwa [add_plain] at this⟩

theorem reads_ob {b c : Nat} {s : ByteArray} {fz : Nat × Nat} : Reads (ob b (.cells (bytesRow s c) 5 fz)) (some ⟨b, 0, none⟩) s.data.toList where
  form _ := ⟨b, 0, rfl⟩
  cell w F hp b' o hA j x hx := by
    injection hA with hA
    injection hA with h1 h2
    subst h1; subst h2
    have hj : j < s.data.size := by simpa using (List.getElem?_eq_some_iff.1 hx).1
    have hx' : s.data[j]? = some x := by simpa using hx
    simp [World.cell?, hp.2, bytesRow, Array.getElem?_append, hx']
    intro h
    have : s.size = s.data.size := rfl
    omega

theorem size_list (b : ByteArray) : b.data.toList.length = b.size := by rw [Array.length_toList]; rfl

/-- what is counted of a flow: at most so much, or too much -/
theorem sum_take (l : List FK.Node) (k : Nat) (nd : FK.Node) (h : l[k]? = some nd) : ((l.take (k + 1)).map (·.after.length)).sum = ((l.take k).map (·.after.length)).sum + nd.after.length := by
  rw [take_more h]
  simp

set_option maxRecDepth 10000 in
set_option maxHeartbeats 1000000 in
theorem coded_gives (dl : Int) (ns : List FK.Node) (A : Option Addr) (c : Nat) (hfit : FlowFits ns) (b : ByteArray) (hb : b.size ≤ 140737488355328) :
    Gives Tryd.prog Good 4 [.agg #[.int .i64 dl, .slice A ns.length c], .string b].toArray (fun w => NodesAt w w.heap.size A c ns) fun v m => v = .bool true ∧ m = [] := by
  refine Gives.body Tryd.func4 rfl rfl fun E w0 hE h0 hN => ?_
  have hf1 := hfit.1
  refine At.seq ?_
  refine At.region ?_
  refine L.op rfl (o_box rfl rfl fun b2 => ?_)
  refine L.as rfl rfl ?_
  refine L.nil ?_
  refine At.then ?_
  refine At.seq ?_
  refine At.region ?_
  refine L.mv rfl rfl ?_
  refine L.pure rfl (ev_lenT rfl rfl) ?_
  refine L.fa 1 rfl rfl rfl ?_
  refine L.ld rfl rfl rfl rfl ?_
  refine L.pure rfl (ev_lenS rfl rfl) ?_
  refine L.pure rfl (ev_add rfl rfl (w64 (by omega))) ?_
  refine L.as rfl rfl ?_
  refine L.nil ?_
  refine At.then ?_
  refine At.seq ?_
  refine At.seq ?_
  refine At.region ?_
  refine L.as rfl rfl ?_
  refine L.nil ?_
  refine At.then ?_
  refine At.block ?_
  refine At.loop (X := Nat × Nat) (fun x => [(6, .int .i64 x.1), (5, .int .i64 x.2), (2, .pointer (some ⟨b2, 0, none⟩)), (1, .string b)]) (fun _ => [blk b2 24 #[.int .i64 dl, .slice A ns.length c], old E w0]) (fun x => x.1 ≤ ns.length ∧ x.2 = b.size + ns.length + ((ns.take x.1).map (·.after.length)).sum ∧ x.2 ≤ 422212465065984) (fun x => ns.length - x.1) (0, b.size + ns.length) ⟨by simp, by simp, by simp only; omega⟩ ⟨rfl, rfl, rfl, rfl, trivial⟩ (Ent.refl _) ?_
  rintro ⟨k, t⟩ ⟨hk, hsum, ht⟩
  simp only at hk hsum ht ⊢
  refine At.seq ?_
  refine At.seq ?_
  refine At.region ?_
  refine L.mv rfl rfl ?_
  refine L.fa 1 rfl rfl rfl ?_
  refine L.ld rfl rfl rfl rfl ?_
  refine L.pure rfl (ev_lenS rfl rfl) ?_
  refine L.bool rfl (ev_lss rfl rfl rfl) (fun _ _ => trivial) fun c25 e25 => ?_
  refine L.mv rfl rfl ?_
  refine L.abs c25 (by rfl) ?_
  refine L.g rfl rfl (fun _ => rfl) (ev_move rfl) (fun _ _ => trivial) ?_
  refine L.abs c25 (by rfl) ?_
  refine L.g rfl rfl (fun _ => rfl) (ev_leq rfl rfl rfl) (fun _ _ => trivial) ?_
  refine L.bool rfl (ev_pickAnd rfl rfl rfl) (fun _ _ => trivial) fun c29 e29 => ?_
  refine L.nil ?_
  refine At.then ?_
  refine At.cond rfl (fun c29 => ?_) (fun c29 => ?_)
  ·
    rw [e29, e25] at c29
    simp only [Bool.and_eq_true, decide_eq_true_eq] at c29
    obtain ⟨hlt, hle⟩ := c29
    have hlt : k < ns.length := by omega
    obtain ⟨bb, o, rfl, hbb, hcell⟩ := hN.cells (by omega)
    obtain ⟨nd, hnd⟩ : ∃ nd, ns[k]? = some nd := ⟨ns[k], by simp [hlt]⟩
    obtain ⟨A6, c6, hrow, hints⟩ := NodeAt.row (hcell k nd hnd)
    have hf2 := hfit.2 nd (List.mem_of_getElem? hnd)
    have hst := sum_take ns k nd hnd
    refine At.skip ?_
    refine At.then ?_
    refine At.seq ?_
    refine At.block ?_
    refine At.region ?_
    refine L.mv rfl rfl ?_
    refine L.fa 1 rfl rfl rfl ?_
    refine L.ld rfl rfl rfl rfl ?_
    refine L.mv rfl rfl ?_
    refine L.pure rfl (ev_ixN (z := 7) rfl rfl rfl rfl hlt) ?_
    refine L.fa 6 rfl rfl rfl ?_
    refine L.val rfl (ev_load1 rfl rfl) (cellOld (.tail (.head)) h0 (hrow 6 _ rfl)) ?_
    refine L.pure rfl (ev_lenS rfl rfl) ?_
    refine L.pure rfl (ev_add (r := ((t + nd.after.length : Nat) : Int)) rfl rfl (by rw [← Int.natCast_add, w64 (by omega)])) ?_
    refine L.as rfl rfl ?_
    refine L.nil ?_
    refine At.inBlock (At.then ?_)
    refine At.region ?_
    refine L.mv rfl rfl ?_
    refine L.pure rfl (ev_add rfl rfl (w64 (by omega))) ?_
    refine L.as rfl rfl ?_
    refine L.nil ?_
    exact At.round (k + 1, t + nd.after.length) ⟨by simp only; omega, by simp only; rw [hst]; omega, by simp only; omega⟩ (by simp only; omega) ⟨rfl, rfl, rfl, rfl, trivial⟩ (Ent.refl _)
  ·
    rw [e29, e25] at c29
    refine At.exit ?_
    refine At.thenExit (At.roundExit (At.inBlockHit (At.then ?_)))
    refine At.seq ?_
    refine At.seq ?_
    refine At.region ?_
    refine L.mv rfl rfl ?_
    refine L.pure rfl (ev_gtr rfl rfl rfl) ?_
    refine L.nil ?_
    refine At.then ?_
    refine At.condD rfl (fun c42 => ?_) (fun c42 => ?_)
    ·
      skip
      refine At.seq ?_
      refine At.region ?_
      refine L.as rfl rfl ?_
      refine L.nil ?_
      refine At.then ?_
      refine At.ret ?_
      refine At.thenRet ?_
      exact At.ret1 [] rfl rfl ⟨rfl, rfl⟩ Ent.drop
    ·
      have hbs : b.size ≤ 16384 := by omega
      refine At.skip ?_
      refine At.then ?_
      refine At.seq ?_
      by_cases hc0 : (FK.chk ⟨dl, ns⟩).1 = 0
      ·
        have hlen := encFlow_le (FK.chk_zero hc0)
        have hpos := encFlow_pos ⟨dl, ns⟩
        refine At.region ?_
        refine L.val rfl (ev_loadN (vs := [.int .i64 dl, .slice A ns.length c]) rfl rfl rfl rfl) (rowAll rfl) ?_
        refine L.op rfl (o_give rfl rfl rfl hE (plain_encode dl ns A c hfit) (nodesLater (.tail (.head)) h0 hN (Nat.le_refl _)) ?_)
        rintro v m hv
        obtain ⟨bv, rfl, rfl⟩ := hv.ok hc0
        refine At.app1 ?_
        refine At.formRow .head ?_
        rintro A1 c1 rfl hn1 hf1' _ _ _
        obtain ⟨g1, rfl⟩ : ∃ g, A1 = some ⟨g, 0, none⟩ := by
          cases A1 with
          | none => have := (hn1 rfl).1; omega
          | some ad => obtain ⟨g, rfl⟩ := hf1' ad rfl; exact ⟨g, rfl⟩
        refine L.mv rfl rfl ?_
        refine L.ex rfl rfl rfl ?_
        refine L.ex rfl rfl rfl ?_
        refine L.ex rfl rfl rfl ?_
        refine L.as rfl rfl ?_
        refine L.as rfl rfl ?_
        refine L.as rfl rfl ?_
        refine L.nil ?_
        refine At.then ?_
        refine At.seq ?_
        refine At.region ?_
        refine L.val rfl (ev_loadN (vs := [.int .i64 dl, .slice A ns.length c]) rfl rfl rfl rfl) (rowAll rfl) ?_
        refine L.op rfl (o_give rfl rfl rfl hE (ref_encode dl ns A c) (nodesLater (.tail (.tail (.head))) h0 hN (Nat.le_refl _)) ?_)
        rintro v m hv2
        obtain ⟨bv, rfl, rfl⟩ := hv2.ok hc0
        refine At.app1 ?_
        refine At.formRow .head ?_
        rintro A2 c2 rfl hn2 hf2' _ _ _
        obtain ⟨g2, rfl⟩ : ∃ g, A2 = some ⟨g, 0, none⟩ := by
          cases A2 with
          | none => have := (hn2 rfl).1; omega
          | some ad => obtain ⟨g, rfl⟩ := hf2' ad rfl; exact ⟨g, rfl⟩
        refine L.mv rfl rfl ?_
        refine L.ex rfl rfl rfl ?_
        refine L.ex rfl rfl rfl ?_
        refine L.ex rfl rfl rfl ?_
        refine L.as rfl rfl ?_
        refine L.as rfl rfl ?_
        refine L.as rfl rfl ?_
        refine L.nil ?_
        refine At.then ?_
        refine At.seq ?_
        refine At.seq ?_
        refine At.region ?_
        refine L.mv rfl rfl ?_
        refine L.mv rfl rfl ?_
        refine L.pure rfl (ev_neq (r := false) rfl rfl (by simp)) ?_
        refine L.mv rfl rfl ?_
        refine L.on rfl rfl rfl (L.vala rfl (ev_move rfl) (fun _ _ => trivial) ?_)
        refine L.on rfl rfl rfl (L.vala rfl (ev_move rfl) (fun _ _ => trivial) ?_)
        refine L.on rfl rfl rfl (L.vala rfl (ev_neq (r := false) rfl rfl (by simp)) (fun _ _ => trivial) ?_)
        refine L.pure rfl (ev_pick rfl rfl rfl) ?_
        refine L.mv rfl rfl ?_
        refine L.on rfl rfl rfl (L.vala rfl (ev_move rfl) (fun _ _ => trivial) ?_)
        refine L.on rfl rfl rfl (L.vala rfl (ev_text rfl rfl rfl (fun ad h => by injection h with h; exact ⟨g1, 0, h.symm⟩) rfl) (bytesIs_row (.tail (.head))) ?_)
        refine L.on rfl rfl rfl (L.vala rfl (ev_move rfl) (fun _ _ => trivial) ?_)
        refine L.on rfl rfl rfl (L.vala rfl (ev_text rfl rfl rfl (fun ad h => by injection h with h; exact ⟨g2, 0, h.symm⟩) rfl) (bytesIs_row .head) ?_)
        refine L.on rfl rfl rfl (L.vala rfl (ev_neqStr (r := false) rfl rfl rfl (by simp)) (fun _ _ => trivial) ?_)
        refine L.pure rfl (ev_pick rfl rfl rfl) ?_
        refine L.mv rfl rfl ?_
        refine L.on rfl rfl rfl (L.vala rfl (ev_move rfl) (fun _ _ => trivial) ?_)
        refine L.on rfl rfl rfl (L.vala rfl (ev_lenS rfl rfl) (fun _ _ => trivial) ?_)
        refine L.on rfl rfl rfl (L.vala rfl (ev_eql (r := false) rfl rfl (by rw [decide_eq_false_iff_not]; omega)) (fun _ _ => trivial) ?_)
        refine L.on rfl rfl rfl (L.vala rfl (ev_move rfl) (fun _ _ => trivial) ?_)
        refine L.off rfl rfl rfl rfl rfl rfl ?_
        refine L.off rfl rfl rfl rfl rfl rfl ?_
        refine L.on rfl rfl rfl (L.vala rfl (ev_pick rfl rfl rfl) (fun _ _ => trivial) ?_)
        refine L.pure rfl (ev_pick rfl rfl rfl) ?_
        refine L.nil ?_
        refine At.then ?_
        refine At.condF rfl ?_
        refine At.skip ?_
        refine At.then ?_
        refine At.seq ?_
        refine At.region ?_
        refine L.mv rfl rfl ?_
        refine L.op rfl (o_bytes rfl rfl rfl rfl rfl fun b80 c80 fz => ?_)
        refine L.op rfl (o_call rfl rfl rfl hE (reads_true (bs := b.data.toList) (c := c80) reads_ob (by rw [size_list]; omega)) (Ent.sel .head) ?_)
        rintro v m ⟨rfl, rfl⟩
        refine At.app1 ?_
        refine L.as rfl rfl ?_
        refine L.nil ?_
        refine At.then ?_
        refine At.seq ?_
        refine At.region ?_
        refine L.mv rfl rfl ?_
        refine L.op rfl (o_call rfl rfl rfl hE (reads_true (bs := FK.encFlow ⟨dl, ns⟩) (c := c2) (Reads.row fun _ => ⟨g2, rfl⟩) (by omega)) (Ent.sel (.tail (.head))) ?_)
        rintro v m ⟨rfl, rfl⟩
        refine At.app1 ?_
        refine L.as rfl rfl ?_
        refine L.nil ?_
        refine At.then ?_
        refine At.seq ?_
        refine At.region ?_
        refine L.mv rfl rfl ?_
        refine L.mv rfl rfl ?_
        refine L.on rfl rfl rfl (L.vala rfl (ev_move rfl) (fun _ _ => trivial) ?_)
        refine L.pure rfl (ev_pick rfl rfl rfl) ?_
        refine L.as rfl rfl ?_
        refine L.nil ?_
        refine At.then ?_
        refine At.ret ?_
        exact At.ret1 [] rfl rfl ⟨rfl, rfl⟩ (Ent.drop.trans (Ent.drop.trans (Ent.drop.trans Ent.drop)))
      ·
        refine At.region ?_
        refine L.val rfl (ev_loadN (vs := [.int .i64 dl, .slice A ns.length c]) rfl rfl rfl rfl) (rowAll rfl) ?_
        refine L.op rfl (o_give rfl rfl rfl hE (plain_encode dl ns A c hfit) (nodesLater (.tail (.head)) h0 hN (Nat.le_refl _)) ?_)
        rintro v m hv
        obtain ⟨rfl, rfl⟩ := hv.bad hc0
        refine At.app0 ?_
        refine L.mv rfl rfl ?_
        refine L.ex rfl rfl rfl ?_
        refine L.ex rfl rfl rfl ?_
        refine L.ex rfl rfl rfl ?_
        refine L.as rfl rfl ?_
        refine L.as rfl rfl ?_
        refine L.as rfl rfl ?_
        refine L.nil ?_
        refine At.then ?_
        refine At.seq ?_
        refine At.region ?_
        refine L.val rfl (ev_loadN (vs := [.int .i64 dl, .slice A ns.length c]) rfl rfl rfl rfl) (rowAll rfl) ?_
        refine L.op rfl (o_give rfl rfl rfl hE (ref_encode dl ns A c) (nodesLater (.tail (.head)) h0 hN (Nat.le_refl _)) ?_)
        rintro v m hv2
        obtain ⟨rfl, rfl⟩ := hv2.bad hc0
        refine At.app0 ?_
        refine L.mv rfl rfl ?_
        refine L.ex rfl rfl rfl ?_
        refine L.ex rfl rfl rfl ?_
        refine L.ex rfl rfl rfl ?_
        refine L.as rfl rfl ?_
        refine L.as rfl rfl ?_
        refine L.as rfl rfl ?_
        refine L.nil ?_
        refine At.then ?_
        refine At.seq ?_
        refine At.seq ?_
        refine At.region ?_
        refine L.mv rfl rfl ?_
        refine L.mv rfl rfl ?_
        refine L.pure rfl (ev_neq (r := false) rfl rfl (by simp)) ?_
        refine L.mv rfl rfl ?_
        refine L.on rfl rfl rfl (L.vala rfl (ev_move rfl) (fun _ _ => trivial) ?_)
        refine L.on rfl rfl rfl (L.vala rfl (ev_move rfl) (fun _ _ => trivial) ?_)
        refine L.on rfl rfl rfl (L.vala rfl (ev_neq (r := false) rfl rfl (by simp)) (fun _ _ => trivial) ?_)
        refine L.pure rfl (ev_pick rfl rfl rfl) ?_
        refine L.mv rfl rfl ?_
        refine L.on rfl rfl rfl (L.vala rfl (ev_move rfl) (fun _ _ => trivial) ?_)
        refine L.on rfl rfl rfl (L.vala rfl (ev_text (bs := []) rfl rfl rfl (fun ad h => by cases h) rfl) (fun _ _ => ⟨fun _ => rfl, fun _ _ h => by cases h⟩) ?_)
        refine L.on rfl rfl rfl (L.vala rfl (ev_move rfl) (fun _ _ => trivial) ?_)
        refine L.on rfl rfl rfl (L.vala rfl (ev_text (bs := []) rfl rfl rfl (fun ad h => by cases h) rfl) (fun _ _ => ⟨fun _ => rfl, fun _ _ h => by cases h⟩) ?_)
        refine L.on rfl rfl rfl (L.vala rfl (ev_neqStr (r := false) rfl rfl rfl (by simp)) (fun _ _ => trivial) ?_)
        refine L.pure rfl (ev_pick rfl rfl rfl) ?_
        refine L.mv rfl rfl ?_
        refine L.on rfl rfl rfl (L.vala rfl (ev_move rfl) (fun _ _ => trivial) ?_)
        refine L.on rfl rfl rfl (L.vala rfl (ev_lenS rfl rfl) (fun _ _ => trivial) ?_)
        refine L.on rfl rfl rfl (L.vala rfl (ev_eql (r := true) rfl rfl (by simp)) (fun _ _ => trivial) ?_)
        refine L.on rfl rfl rfl (L.vala rfl (ev_move rfl) (fun _ _ => trivial) ?_)
        refine L.on rfl rfl rfl (L.vala rfl (ev_move rfl) (fun _ _ => trivial) ?_)
        refine L.on rfl rfl rfl (L.vala rfl (ev_neqNilS (r := false) rfl rfl rfl) (fun _ _ => trivial) ?_)
        refine L.on rfl rfl rfl (L.vala rfl (ev_pick rfl rfl rfl) (fun _ _ => trivial) ?_)
        refine L.pure rfl (ev_pick rfl rfl rfl) ?_
        refine L.nil ?_
        refine At.then ?_
        refine At.condF rfl ?_
        refine At.skip ?_
        refine At.then ?_
        refine At.seq ?_
        refine At.region ?_
        refine L.mv rfl rfl ?_
        refine L.op rfl (o_bytes rfl rfl rfl rfl rfl fun b80 c80 fz => ?_)
        refine L.op rfl (o_call rfl rfl rfl hE (reads_true (bs := b.data.toList) (c := c80) reads_ob (by rw [size_list]; omega)) (Ent.sel .head) ?_)
        rintro v m ⟨rfl, rfl⟩
        refine At.app1 ?_
        refine L.as rfl rfl ?_
        refine L.nil ?_
        refine At.then ?_
        refine At.seq ?_
        refine At.region ?_
        refine L.mv rfl rfl ?_
        refine L.op rfl (o_call rfl rfl rfl hE (reads_true (bs := []) (A := none) (c := 0) (p := HP.pure True) ⟨fun h => absurd rfl h, fun _ _ _ _ _ h => by cases h⟩ (by simp)) (Ent.pure trivial) ?_)
        rintro v m ⟨rfl, rfl⟩
        refine At.app1 ?_
        refine L.as rfl rfl ?_
        refine L.nil ?_
        refine At.then ?_
        refine At.seq ?_
        refine At.region ?_
        refine L.mv rfl rfl ?_
        refine L.mv rfl rfl ?_
        refine L.on rfl rfl rfl (L.vala rfl (ev_move rfl) (fun _ _ => trivial) ?_)
        refine L.pure rfl (ev_pick rfl rfl rfl) ?_
        refine L.as rfl rfl ?_
        refine L.nil ?_
        refine At.then ?_
        refine At.ret ?_
        exact At.ret1 [] rfl rfl ⟨rfl, rfl⟩ (Ent.drop.trans (Ent.drop.trans Ent.drop))
end Go.Proofs.YtagkobkmaigfcaaDoor
