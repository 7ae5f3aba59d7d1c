/- The walk of the document's encode. -/
import Derived.Test.YtagkobkmaigfcaaDoorBytesW
namespace Go.Proofs.YtagkobkmaigfcaaDoor
open Go Go.RowKit Go.SL
variable {G : Env → Prop}

set_option maxRecDepth 10000 in
theorem refEncode_gives (d : Nat) (A : Option Addr) (c : Nat) (ns : List FK.Node) (hd : d ≤ 1048576) (hl : ns.length ≤ 12) (ho : ∀ n ∈ ns, FK.NodeOk n ∧ FK.EdgesOk ns.length (-1) n.after) :
    Gives Tryd.prog G 33 [.agg #[.int .i64 d, .slice A ns.length c]].toArray (fun w => NodesAt w w.heap.size A c ns) fun v m => m = [bytesAt v (FK.encFlow ⟨d, ns⟩)] := by
  have hlen := encTo_len hd hl ho
  refine Gives.body Tryd.func33 rfl rfl fun E w0 hE h0 hN => ?_
  refine At.seq ?_
  refine At.region ?_
  refine L.op rfl (o_box rfl rfl fun b1 => ?_)
  refine L.as rfl rfl ?_
  refine L.nil ?_
  refine At.then ?_
  refine At.seq ?_
  refine At.region ?_
  refine L.fa 0 rfl rfl rfl ?_
  refine L.ld rfl rfl rfl rfl ?_
  refine L.op rfl (o_call rfl rfl rfl hE (refNumber_does _ [] d (by omega) (by simp)) Ent.row0 ?_)
  rintro v m rfl
  refine At.app1 ?_
  refine L.as rfl rfl ?_
  refine L.nil ?_
  refine At.then ?_
  refine At.seq ?_
  refine At.region ?_
  refine L.mv rfl rfl ?_
  refine L.fa 1 rfl rfl rfl ?_
  refine L.ld rfl rfl rfl rfl ?_
  refine L.pure rfl (ev_lenS rfl rfl) ?_
  refine L.op rfl (o_call rfl rfl rfl hE (refNumber_does _ _ ns.length (by omega) (by have := FK.encN_length_le (n := d) (by omega); simp; omega)) (Ent.refl _) ?_)
  rintro v m rfl
  refine At.app1 ?_
  refine L.as rfl rfl ?_
  refine L.nil ?_
  refine At.then ?_
  refine At.seq ?_
  refine At.seq ?_
  refine At.region ?_
  refine L.as rfl rfl ?_
  refine L.nil ?_
  refine At.then ?_
  refine At.block ?_
  refine At.loop (X := Nat × Value) (fun x => [(4, .int .i64 x.1), (3, x.2), (1, .pointer (some ⟨b1, 0, none⟩))]) (fun x => [bytesAt x.2 (encTo d ns x.1), blk b1 _ #[.int .i64 d, .slice A ns.length c], old E w0]) (fun x => x.1 ≤ ns.length) (fun x => ns.length - x.1) (0, _) (by omega) ⟨rfl, rfl, rfl, trivial⟩ (by simp only [encTo, List.take_zero, List.flatMap_nil, List.append_nil, List.nil_append]; exact Ent.refl _) ?_
  rintro ⟨k, v3⟩ hk
  simp only at hk ⊢
  refine At.seq ?_
  refine At.seq ?_
  refine At.region ?_
  refine L.mv rfl rfl ?_
  refine L.fa 1 rfl rfl rfl ?_
  refine L.ld rfl rfl rfl rfl ?_
  refine L.pure rfl (ev_lenS rfl rfl) ?_
  refine L.pure rfl (ev_lss rfl rfl rfl) ?_
  refine L.nil ?_
  refine At.then ?_
  refine At.condD rfl (fun c19 => ?_) (fun c19 => ?_)
  ·
    have hlt : k < ns.length := by omega
    obtain ⟨b, off, rfl, hbB, hcell⟩ := hN.cells (by omega)
    obtain ⟨nd, hnd⟩ : ∃ nd, ns[k]? = some nd := ⟨ns[k], by simp [hlt]⟩
    obtain ⟨A6, c6, hrow, hints⟩ := NodeAt.row (hcell k nd hnd)
    obtain ⟨hok, hed⟩ := ho nd (List.mem_of_getElem? hnd)
    have hnx := encTo_next (d := d) hnd
    have hl1 : (encTo d ns k).length + ((nums nd).flatMap encI).length + (FK.encN nd.after.length).length + (nd.after.flatMap encI).length ≤ 700 := by
      have := hlen (k + 1)
      rw [hnx, encNode_nums] at this
      simp only [List.length_append] at this
      have e : (fun k : Int => FK.encN k.toNat) = encI := rfl
      rw [e] at this
      omega
    have hal : nd.after.length ≤ 12 := by
      rcases hed.length_le (by omega) with h | h
      · omega
      · rw [h]; simp
    obtain ⟨ba, cl, be, bs, ca, ji, af⟩ := nd
    have hal : af.length ≤ 12 := hal
    have hxr := nums_ok hok
    simp only [nums, List.mem_cons, List.not_mem_nil, or_false, forall_eq_or_imp, forall_eq] at hxr
    obtain ⟨⟨x1, y1⟩, ⟨x2, y2⟩, ⟨x3, y3⟩, ⟨x4, y4⟩, ⟨x5, y5⟩, ⟨x6, y6⟩⟩ := hxr
    obtain ⟨n1, rfl⟩ : ∃ m : Nat, ba = m := ⟨ba.toNat, by omega⟩
    obtain ⟨n2, rfl⟩ : ∃ m : Nat, cl = m := ⟨cl.toNat, by omega⟩
    obtain ⟨n3, rfl⟩ : ∃ m : Nat, be = m := ⟨be.toNat, by omega⟩
    obtain ⟨n4, rfl⟩ : ∃ m : Nat, bs = m := ⟨bs.toNat, by omega⟩
    obtain ⟨n5, rfl⟩ : ∃ m : Nat, ca = m := ⟨ca.toNat, by omega⟩
    obtain ⟨n6, rfl⟩ : ∃ m : Nat, ji = m := ⟨ji.toNat, by omega⟩
    simp only [nums, List.flatMap_cons, List.flatMap_nil, List.append_nil, List.length_append] at hl1
    have e1 : ∀ k : Nat, encI (k : Int) = FK.encN k := fun _ => rfl
    simp only [e1] at hl1
    refine At.skip ?_
    refine At.then ?_
    refine At.seq ?_
    refine At.block ?_
    refine At.seq ?_
    refine At.region ?_
    refine L.fa 1 rfl rfl rfl ?_
    refine L.ld rfl rfl rfl rfl ?_
    refine L.mv rfl rfl ?_
    refine L.pure rfl (ev_ixN (z := 7) rfl rfl rfl rfl hlt) ?_
    refine L.val rfl (ev_loadN (vs := nodeVals _ A6 c6) rfl rfl rfl rfl) (rowOld (.tail (.tail (.head))) h0 hrow) ?_
    refine L.op rfl (o_alloc (z := .agg #[.int .i64 0, .int .i64 0, .int .i64 0, .int .i64 0, .int .i64 0, .int .i64 0, .slice none 0 0]) rfl rfl fun b5 => ?_)
    refine L.op rfl (o_storeN rfl (m := 7) (vs := nodeVals _ A6 c6) rfl rfl rfl rfl (by simp [nodeVals, Value.oneCell']) (by simp [nodeVals, Value.cells]) ?_)
    simp only [Value.cells, setRow_all]
    refine L.nil ?_
    refine At.then ?_
    refine At.seq ?_
    refine At.region ?_
    refine L.mv rfl rfl ?_
    refine L.fa 0 rfl rfl rfl ?_
    refine L.ld rfl rfl rfl rfl ?_
    refine L.op rfl (o_call rfl rfl rfl hE (refNumber_does _ _ n1 (by omega) (by omega)) (Ent.sel (.tail (.head))) ?_)
    rintro v m rfl
    refine At.app1 ?_
    refine L.as rfl rfl ?_
    refine L.nil ?_
    refine At.then ?_
    refine At.seq ?_
    refine At.region ?_
    refine L.mv rfl rfl ?_
    refine L.fa 1 rfl rfl rfl ?_
    refine L.ld rfl rfl rfl rfl ?_
    refine L.op rfl (o_call rfl rfl rfl hE (refNumber_does _ _ n2 (by omega) (by simp only [List.length_append]; omega)) (Ent.refl _) ?_)
    rintro v m rfl
    refine At.app1 ?_
    refine L.as rfl rfl ?_
    refine L.nil ?_
    refine At.then ?_
    refine At.seq ?_
    refine At.region ?_
    refine L.mv rfl rfl ?_
    refine L.fa 2 rfl rfl rfl ?_
    refine L.ld rfl rfl rfl rfl ?_
    refine L.op rfl (o_call rfl rfl rfl hE (refNumber_does _ _ n3 (by omega) (by simp only [List.length_append]; omega)) (Ent.refl _) ?_)
    rintro v m rfl
    refine At.app1 ?_
    refine L.as rfl rfl ?_
    refine L.nil ?_
    refine At.then ?_
    refine At.seq ?_
    refine At.region ?_
    refine L.mv rfl rfl ?_
    refine L.fa 3 rfl rfl rfl ?_
    refine L.ld rfl rfl rfl rfl ?_
    refine L.op rfl (o_call rfl rfl rfl hE (refNumber_does _ _ n4 (by omega) (by simp only [List.length_append]; omega)) (Ent.refl _) ?_)
    rintro v m rfl
    refine At.app1 ?_
    refine L.as rfl rfl ?_
    refine L.nil ?_
    refine At.then ?_
    refine At.seq ?_
    refine At.region ?_
    refine L.mv rfl rfl ?_
    refine L.fa 4 rfl rfl rfl ?_
    refine L.ld rfl rfl rfl rfl ?_
    refine L.op rfl (o_call rfl rfl rfl hE (refNumber_does _ _ n5 (by omega) (by simp only [List.length_append]; omega)) (Ent.refl _) ?_)
    rintro v m rfl
    refine At.app1 ?_
    refine L.as rfl rfl ?_
    refine L.nil ?_
    refine At.then ?_
    refine At.seq ?_
    refine At.region ?_
    refine L.mv rfl rfl ?_
    refine L.fa 5 rfl rfl rfl ?_
    refine L.ld rfl rfl rfl rfl ?_
    refine L.op rfl (o_call rfl rfl rfl hE (refNumber_does _ _ n6 (by omega) (by simp only [List.length_append]; omega)) (Ent.refl _) ?_)
    rintro v m rfl
    refine At.app1 ?_
    refine L.as rfl rfl ?_
    refine L.nil ?_
    refine At.then ?_
    refine At.seq ?_
    refine At.region ?_
    refine L.mv rfl rfl ?_
    refine L.fa 6 rfl rfl rfl ?_
    refine L.ld rfl rfl rfl rfl ?_
    refine L.pure rfl (ev_lenS rfl rfl) ?_
    refine L.op rfl (o_call rfl rfl rfl hE (refNumber_does _ _ af.length (by omega) (by simp only [List.length_append]; omega)) (Ent.refl _) ?_)
    rintro v m rfl
    refine At.app1 ?_
    refine L.as rfl rfl ?_
    refine L.nil ?_
    refine At.then ?_
    refine At.seq ?_
    refine At.region ?_
    refine L.as rfl rfl ?_
    refine L.nil ?_
    refine At.then ?_
    refine At.block ?_
    refine At.loop (X := Nat × Value) (fun x => [(6, .int .i64 x.1), (3, x.2), (4, .int .i64 k), (1, .pointer (some ⟨b1, 0, none⟩)), (5, .pointer (some ⟨b5, 0, none⟩))]) (fun x => [bytesAt x.2 (encTo d ns k ++ FK.encN n1 ++ FK.encN n2 ++ FK.encN n3 ++ FK.encN n4 ++ FK.encN n5 ++ FK.encN n6 ++ FK.encN af.length ++ (af.take x.1).flatMap encI), blk b5 _ (nodeVals ⟨n1, n2, n3, n4, n5, n6, af⟩ A6 c6).toArray, blk b1 _ #[.int .i64 d, .slice (some ⟨b, off, none⟩) ns.length c], old E w0]) (fun x => x.1 ≤ af.length) (fun x => af.length - x.1) (0, _) (by omega) ⟨rfl, rfl, rfl, rfl, rfl, trivial⟩ (by simp only [List.take_zero, List.flatMap_nil, List.append_nil]; exact Ent.refl _) ?_
    rintro ⟨j, v3⟩ hj
    simp only at hj ⊢
    refine At.seq ?_
    refine At.seq ?_
    refine At.region ?_
    refine L.mv rfl rfl ?_
    refine L.fa 6 rfl rfl rfl ?_
    refine L.ld rfl rfl rfl rfl ?_
    refine L.pure rfl (ev_lenS rfl rfl) ?_
    refine L.pure rfl (ev_lss rfl rfl rfl) ?_
    refine L.nil ?_
    refine At.then ?_
    refine At.condD rfl (fun c60 => ?_) (fun c60 => ?_)
    ·
      simp only at c60
      have hlt2 : j < af.length := by omega
      obtain ⟨b6, off6, rfl, hb6, hc6⟩ := hints.cells (by simp only; omega)
      obtain ⟨y, hy⟩ : ∃ y, af[j]? = some y := ⟨af[j], by simp [hlt2]⟩
      have hyr := hed.bounds y (List.mem_of_getElem? hy)
      obtain ⟨m, rfl⟩ : ∃ m : Nat, y = m := ⟨y.toNat, by omega⟩
      have hxt := take_more hy
      have hft := flat_take encI af j
      refine At.skip ?_
      refine At.then ?_
      refine At.seq ?_
      refine At.block ?_
      refine At.region ?_
      refine L.mv rfl rfl ?_
      refine L.fa 6 rfl rfl rfl ?_
      refine L.ld rfl rfl rfl rfl ?_
      refine L.mv rfl rfl ?_
      refine L.pure rfl (ev_ixN (z := 1) rfl rfl rfl rfl hlt2) ?_
      refine L.val rfl (ev_load1 rfl rfl) (cellOld (.tail (.tail (.tail (.head)))) h0 (by simpa using hc6 j _ hy)) ?_
      refine L.op rfl (o_call rfl rfl rfl hE (refNumber_does _ _ m (by omega) (by simp only [List.length_append]; omega)) (Ent.refl _) ?_)
      rintro v m rfl
      refine At.app1 ?_
      refine L.as rfl rfl ?_
      refine L.nil ?_
      refine At.inBlock (At.then ?_)
      refine At.region ?_
      refine L.mv rfl rfl ?_
      refine L.pure rfl (ev_add rfl rfl (w64 (by omega))) ?_
      refine L.as rfl rfl ?_
      refine L.nil ?_
      exact At.round (j + 1, _) (by simp; omega) (by simp; omega) ⟨rfl, rfl, rfl, rfl, rfl, trivial⟩ (by rw [hxt]; simp only [List.flatMap_append, List.flatMap_cons, List.flatMap_nil, List.append_nil, List.append_assoc]; exact Ent.refl _)
    ·
      simp only at c60
      obtain rfl : j = af.length := by omega
      refine At.exit ?_
      refine At.thenExit (At.roundExit (At.inBlockHit (At.inBlock (At.then ?_))))
      refine At.region ?_
      refine L.mv rfl rfl ?_
      refine L.pure rfl (ev_add rfl rfl (w64 (by omega))) ?_
      refine L.as rfl rfl ?_
      refine L.nil ?_
      exact At.round (k + 1, _) (by simp; omega) (by simp; omega) ⟨rfl, rfl, rfl, trivial⟩ (by rw [hnx]; simp only [FK.encNode, Int.toNat_natCast, List.append_assoc, List.take_length]; exact Ent.cons Ent.drop)
  ·
    obtain rfl : k = ns.length := by omega
    refine At.exit ?_
    refine At.thenExit (At.roundExit (At.inBlockHit (At.then ?_)))
    refine At.seq ?_
    refine At.region ?_
    refine L.mv rfl rfl ?_
    refine L.as rfl rfl ?_
    refine L.nil ?_
    refine At.then ?_
    refine At.ret ?_
    exact At.ret1 [bytesAt v3 (FK.encFlow ⟨d, ns⟩)] rfl rfl rfl (by have e : encTo d ns ns.length = FK.encFlow ⟨d, ns⟩ := (by simp [encTo, FK.encFlow]); rw [e]; exact Ent.cons Ent.drop)
end Go.Proofs.YtagkobkmaigfcaaDoor
