/- A disk's files: their names in order, and what they hold. -/
import Derived.Test.YtmeegfamopaljaaGreatDoorEdW
import Derived.Test.YtmeegfamopaljaaGreatDoorEdS
import Derived.Sort.OwnSorted
import Derived.Test.YtmeegfamopaljaaGreatDoorEdK
import Derived.Test.YtmeegfamopaljaaGreatDoorEdJ
import Derived.Test.YtmeegfamopaljaaGreatDoorEdU
import Derived.BigQuiet
import Derived.Test.YtmeegfamopaljaaGreatDoorEdV
namespace FK
def ki (ns : List ByteArray) : List ByteArray := ((ns.map fun s => s.data.toList).mergeSort fun x y => decide (x ≤ y)).map fun l => ⟨l.toArray⟩
end FK
namespace Go.SL
open Go Go.RowKit
variable {P : Program} {E : Env} {n i : Nat} {D : List Deferred} {ts : List (Nat × Value)} {l : List HP} {ty : TypeId} {pos : String} {af : Array Edge} {g : Option (Nat × Bool)} {Q : Exit → Act → World → Prop}
theorem za {src dst e : TypeId} {x : Operand} {s : ByteArray} {K : Act → World → Prop} (hi : Nat.blt i n = true) (hs : P.underlying src = some .string) (hd : P.underlying dst = some (.slice e)) (he : P.underlying e = some (.int .u8)) (hx : ev ts x = some (.string s))
 (h : ∀ b c fz, s.size ≤ c → At E n D ((i, .slice (some ⟨b, 0, none⟩) s.size c) :: ts) (ob b (.cells (bytesRow s c) e fz) :: l) K) : At E n D ts l (fun a w => (Oper.mk (some i) (.convert src dst x) ty pos af g).wp P a w K Q) := fun a w ft hw => by
 have hr := run_bytes_of_string (P := P) w src dst e s hs hd he
 have : (execOp a.eval (Oper.mk (some i) (.convert src dst x) ty pos af g)).run P w = .ok (.value (.slice (some ⟨w.heap.size, 0, none⟩) s.size (grownCap w s.size 0 e))) (w.drew.alloc (.cells (bytesRow s (grownCap w s.size 0 e)) e ((bytesRow s (grownCap w s.size 0 e)).size, (bytesRow s (grownCap w s.size 0 e)).size + 1))) := by
  simp only [execOp, ft.eval hx, Sem.run_bind, hr, Result.andThen_ok, Sem.run_pure]
 show (Oper.mk (some i) (.convert src dst x) ty pos af g).wp P a w K Q
 unfold Oper.wp
 rw [this]
 exact h _ _ _ (grownCap_ge _ _ _ _) _ _ (ft.put i (Nat.le_of_ble_eq_true hi) _) ((hw.drawn _).alloc _)
end Go.SL
namespace Go.Proofs.YtmeegfamopaljaaGreatDoor
open Go Go.RowKit Go.SL
variable {G : Env → Prop}
theorem AX (ns : List ByteArray) : (ns.map fun s => s.data.toList).map encStr = ns.map bG := by
 rw [List.map_map]
 refine List.map_congr_left fun s _ => ?_
 show Value.string ⟨s.data.toList.toArray⟩ = .string s
 rw [Array.toArray_toList]
theorem xv (ns : List ByteArray) : ((ns.map fun s => s.data.toList).mergeSort fun x y => decide (x ≤ y)).map encStr = (FK.ki ns).map bG := by
 unfold FK.ki
 rw [List.map_map]
 rfl
theorem tP {A : Option Addr} {c : Nat} {ns : List ByteArray} (hl : ns.length ≤ 1000000) : Does Tryz.prog G 333 [.slice A ns.length c].toArray [row 9 1 (.slice A ns.length c) ns.length (ns.map bG)] fun v m => v = .tuple #[] ∧ m = [row 9 1 (.slice A ns.length c) ns.length ((FK.ki ns).map bG)] := fun E w fr hE hw => by
 have hr := hw.row .head
 rcases hr.2 with ⟨h0, h1⟩ | ⟨g, cap, cur, hv, hb, hg, h1, h2, h3, h4⟩
 · have hns : ns = [] := List.eq_nil_of_length_eq_zero h1
   subst hns
   refine (fD A c w).mono fun e w' ⟨he, hw'⟩ => ?_
   subst hw'
   exact ⟨_, _, he, ⟨rfl, rfl⟩, by
   have e0 : (FK.ki []).map bG = ([] : List Value) := by simp [FK.ki]
   rw [e0]; exact hw⟩
 · have hA : A = some ⟨g, 0, none⟩ ∧ c = cap := by injection hv with a1 _ a3; exact ⟨a1, a3⟩
   obtain ⟨rfl, rfl⟩ := hA
   have hlen : (ns.map fun s => s.data.toList).length = ns.length := List.length_map _
   rw [Nat.mul_one] at h4
   have hH := holds_of_block (ss := ns.map fun s => s.data.toList) hg (by rw [hlen, h4, AX])
   have hc := ly g 0 c (ns.map fun s => s.data.toList) w hH (Array.getElem?_eq_some_iff.1 hg).1 (by omega)
   rw [hlen] at hc
   refine hc.mono fun e w' ⟨he, n, os, hw'⟩ => ?_
   subst hw'
   refine ⟨_, _, he, ⟨rfl, rfl⟩, ?_⟩
   have ho := ownsRow_sorted (w := w) (base := 0) (n := n) (os := os) (ss := ns.map fun s => s.data.toList) (ts := (ns.map fun s => s.data.toList).mergeSort fun x y => decide (x ≤ y)) (by simp) (Nat.zero_le _) hg (by rw [hlen]; exact h1) h2 h3
   rw [hlen, xv] at ho
   exact jK hw (grownBy_sorted _) ho (.inl Z)
theorem AO : fx Tryz.prog 9 (.string ⟨#[]⟩) 1 16 := by unfold fx; kernel_rfl
theorem zA (s : ByteArray) : Instr.fill (fun i => some (i * 1, 1)) (Array.map (fun x => (Value.string ⟨#[]⟩).cells[x % (Value.string ⟨#[]⟩).cells.size]!) (Array.range (1 * 1))) ((List.map (fun x => x.fst) [((0 : Nat), Operand.tmp 21)]).zip [bG s]) = some #[bG s] := by
 have e1 : Array.range (1 * 1) = #[0] := rfl
 rw [e1]
 simp [Instr.fill, Value.cells]
set_option maxRecDepth 10000 in
set_option maxHeartbeats 1000000 in
theorem uf {d : Nat} {σ : FK.Dsk} (hd : σ.down = false) (hn : σ.now.length ≤ 1000000) : Does Tryz.prog G 327 [aL d].toArray [ak d σ] fun v m => ∃ ns A c, ns.Perm (σ.now.map (·.1)) ∧ v = .tuple #[.slice A ns.length c, .nilIface] ∧ m = [row 9 1 (.slice A ns.length c) ns.length ((FK.ki ns).map bG), ak d σ] := by
 obtain ⟨dur, now, pend, left, full, down⟩ := σ
 simp only at hd hn
 subst hd
 refine Does.body Tryz.func327 Z Z fun E fr hE => ?_
 refine ai ?_
 refine At.ex .head fun q => bn ?_
 refine At.ent (l' := ko d q ⟨dur, now, pend, left, full, false⟩ fr) (Ent.refl _) ?_
 refine At.ex (.tail (.tail .head)) fun M => bn ?_
 refine At.ent (l' := HP.pure (Names q.P M now) :: bF bG q.mn (cC M) :: blk d 131 (eX q ⟨dur, now, pend, left, full, false⟩) :: aS q.md q.P dur :: cW q.P :: row 211 3 q.pv pend.length (fm pend) :: fr) (Ent.refl _) ?_
 refine At.pure .head fun hN => ?_
 have hMl : M.length = now.length := by rw [← List.length_map (f := (·.1)), hN.keys, List.length_map]
 refine At.seq (At.region (L.as Z Z (L.as Z Z (L.nil (At.then (At.seq (At.seq (At.region (L.mv Z Z (aN Z Z (aE 5 Z Z Z (aX Z Z Z Z (L.nil (At.then (aj Z (At.skip (At.then (At.seq (At.region ?_)))))))))))))))))))
 refine L.as Z Z (L.nil (At.then (At.seq (At.seq (At.region (L.mv Z Z (aN Z Z (aE 1 Z Z Z (aX Z Z Z Z (L.op Z (kK (b := q.mn) (m := cC M) Z Z Z .head fun it => (L.nil (At.then (At.block ?_))))))))))))))
 refine aT (X := List (ByteArray × Nat) × Option (ByteArray × Value) × List ByteArray × Value) (fun x => [(15, .pointer (some ⟨it, 0, none⟩)), (4, x.2.2.2), (0, aL d)]) (fun x => ct bG it q.mn (cC M) (cC x.1) x.2.1 :: row 9 1 x.2.2.2 x.2.2.1.length (x.2.2.1.map bG) :: blk d 131 (eX q ⟨dur, now, pend, left, full, false⟩) :: aS q.md q.P dur :: cW q.P :: row 211 3 q.pv pend.length (fm pend) :: fr) (fun x => (M.map (·.1)).Perm (x.2.2.1 ++ x.1.map (·.1))) (fun x => x.1.length) (M, none, [], .slice none 0 0) (List.Perm.refl _) ⟨rfl, rfl, rfl, trivial⟩ (by show Ent _ (ct bG it q.mn (cC M) (cC M) none :: row 9 1 (.slice none 0 0) 0 [] :: blk d 131 (eX q ⟨dur, now, pend, left, full, false⟩) :: aS q.md q.P dur :: cW q.P :: row 211 3 q.pv pend.length (fm pend) :: fr); exact (Ent.row0 (e := 9) (size := 1)).trans ao) ?_
 rintro ⟨left', cur, ns, y⟩ hperm
 replace hperm : (M.map (·.1)).Perm (ns ++ left'.map (·.1)) := hperm
 have hcnt := hperm.length_eq
 rw [List.length_append, List.length_map, List.length_map] at hcnt
 refine At.ent (l' := ct bG it q.mn (cC M) (cC left') cur :: row 9 1 y ns.length (ns.map bG) :: blk d 131 (eX q ⟨dur, now, pend, left, full, false⟩) :: aS q.md q.P dur :: cW q.P :: row 211 3 q.pv pend.length (fm pend) :: fr) (Ent.refl _) ?_
 refine At.seq ?_
 by_cases HL : left' = []
 ·
  subst HL
  refine At.region ?_
  refine L.op Z (jr Z Z .head (fun _ => ?_) (fun j q hj => by simp at hj))
  refine L.ex Z Z Z (L.nil (At.then (At.seq (aj Z (At.exit (au (ar (an (At.then (At.seq ?_))))))))))
  rw [List.map_nil, List.append_nil] at hperm
  refine aJ (.tail .head) ?_
  rintro A c rfl - - - - -
  refine At.region (L.mv Z Z ?_)
  refine L.op Z (ah Z Z Z hE (tP (c := c) (by omega)) (Ent.sel (.tail .head)) ?_)
  rintro v m ⟨rfl, rfl⟩
  refine ai (L.nil (At.then (At.seq (At.region (L.mv Z Z (L.as Z Z (L.as Z Z (L.nil (At.then (At.ret ?_))))))))))
  refine dd [row 9 1 (.slice A ns.length c) ns.length ((FK.ki ns).map bG), ak d ⟨dur, now, pend, left, full, false⟩] rfl Z Z ⟨ns, A, c, by rw [← hN.keys]; exact hperm.symm, rfl, rfl⟩ ?_
  show Ent _ (row 9 1 (.slice A ns.length c) ns.length ((FK.ki ns).map bG) :: ak d ⟨dur, now, pend, left, full, false⟩ :: fr)
  refine Ent.cons (Ent.trans ?_ (bJ q ⟨dur, now, pend, left, full, false⟩))
  refine Ent.trans (Ent.ranged.trans (bQ hN)) ?_
  show Ent _ (_ :: aS q.md q.P dur :: aS q.mn q.P now :: cW q.P :: _ :: fr)
  exact ao
 ·
  refine At.region ?_
  refine L.op Z (jr Z Z .head (fun h => absurd (List.map_eq_nil_iff.1 h) HL) (fun j q' hj => ?_))
  obtain ⟨x, hx, rfl⟩ : ∃ x, left'[j]? = some x ∧ (x.1, aL x.2) = q' := by
   rw [List.getElem?_map] at hj
   cases hl : left'[j]? with
   | none => rw [hl] at hj; cases hj
   | some x => rw [hl] at hj; injection hj with hj; exact ⟨x, rfl, hj⟩
  have hjl := (List.getElem?_eq_some_iff.1 hx).1
  have hpe := ku hx
  have hp2 : (M.map (·.1)).Perm ((ns ++ [x.1]) ++ (left'.eraseIdx j).map (·.1)) := by
   rw [List.append_assoc]
   exact hperm.trans (List.Perm.append_left ns (hpe.map (·.1)))
  rw [← ff]
  refine L.ex Z Z Z (L.nil (At.then (At.seq (aR Z (At.skip (At.then (At.block (At.seq (At.region (L.val Z (nE (p := (x.1, aL x.2)) Z) (kJ .head) (L.ex Z Z Z (L.as Z Z (L.nil (At.then (At.region (L.mv Z Z (L.mv Z Z ?_)))))))))))))))))
  refine L.op Z (dT (m := 1) (z := .string ⟨#[]⟩) (size := 1) (ps := [(0, .tmp 21)]) (vs := [bG x.1]) (cs := #[bG x.1]) Z Z Z Z (by omega) (by omega) Z (zA _) fun b22 => ?_)
  refine L.op rfl (cj rfl rfl AO rfl (by omega) rfl rfl (HasVal.sel (v := y)) (news := [bG x.1]) rfl (fun h => by cases h) (f6 (fun j u h => by simpa using h)) (by simp [Value.oneCell']) (by unfold maxLen; omega) (by omega) fun v23 hv23 => ?_)
  refine L.as Z Z (L.nil (al ?_))
  refine At.round (left'.eraseIdx j, some (x.1, aL x.2), ns ++ [x.1], v23) hp2 (by show (left'.eraseIdx j).length < left'.length; rw [List.length_eraseIdx_of_lt hjl]; omega) ⟨rfl, rfl, rfl, trivial⟩ ?_
  show Ent _ (ct bG it q.mn (cC M) (cC (left'.eraseIdx j)) (some (x.1, aL x.2)) :: row 9 1 v23 (ns ++ [x.1]).length ((ns ++ [x.1]).map bG) :: blk d 131 (eX q ⟨dur, now, pend, left, full, false⟩) :: aS q.md q.P dur :: cW q.P :: row 211 3 q.pv pend.length (fm pend) :: fr)
  rw [List.length_append, List.map_append]
  show Ent _ (ct bG it q.mn (cC M) (cC (left'.eraseIdx j)) (some (x.1, aL x.2)) :: row 9 1 v23 (ns.length + 1) (ns.map bG ++ [bG x.1]) :: blk d 131 (eX q ⟨dur, now, pend, left, full, false⟩) :: aS q.md q.P dur :: cW q.P :: row 211 3 q.pv pend.length (fm pend) :: fr)
  exact ao
abbrev jj (b c : Nat) (s : ByteArray) (fz : Nat × Nat) : HP := ob b (.cells (bytesRow s c) 5 fz)
theorem wA {b c : Nat} {s : ByteArray} {fz : Nat × Nat} : Reads (jj b c s fz) (some ⟨b, 0, none⟩) s.data.toList where
 form _ := ⟨b, 0, rfl⟩
 cell w F hp b' o he j x hx := by
  injection he with he
  injection he with e1 e2
  subst e1; subst e2
  have hx' : s.data[j]? = some x := by simpa using hx
  have hj : j < s.data.size := by
   obtain ⟨h, _⟩ := Array.getElem?_eq_some_iff.1 hx'
   exact h
  simp [World.cell?, hp.2, bytesRow, Array.getElem?_append, hx']
  intro h
  have : s.size = s.data.size := rfl
  omega
set_option maxRecDepth 10000 in
theorem wB {d : Nat} {σ : FK.Dsk} {name s : ByteArray} (hd : σ.down = false) (hn : FK.dx σ.now name = some s) : Does Tryz.prog G 328 [aL d, bG name].toArray [ak d σ] fun v m => ∃ b c fz, s.size ≤ c ∧ v = .tuple #[.slice (some ⟨b, 0, none⟩) s.size c, .nilIface] ∧ m = [jj b c s fz, ak d σ] := by
 obtain ⟨dur, now, pend, left, full, down⟩ := σ
 simp only at hd hn
 subst hd
 refine Does.body Tryz.func328 Z Z fun E fr hE => ?_
 refine ai ?_
 refine At.ex .head fun q => bn ?_
 refine At.ent (l' := ko d q ⟨dur, now, pend, left, full, false⟩ fr) (Ent.refl _) ?_
 refine At.ex (.tail (.tail .head)) fun M => bn ?_
 refine At.ent (l' := HP.pure (Names q.P M now) :: bF bG q.mn (cC M) :: blk d 131 (eX q ⟨dur, now, pend, left, full, false⟩) :: aS q.md q.P dur :: cW q.P :: row 211 3 q.pv pend.length (fm pend) :: fr) (Ent.refl _) ?_
 refine At.pure .head fun hN => ?_
 obtain ⟨bs, hM, hP⟩ : ∃ b, FK.dx M name = some b ∧ (b, s) ∈ q.P := by
  rcases hN.get name with h | ⟨b, s', h1, h2, h3⟩
  · rw [h.2] at hn; cases hn
  · rw [h2] at hn; injection hn with hn; subst hn; exact ⟨b, h1, h3⟩
 refine At.seq (At.region (L.as Z Z (L.as Z Z (L.nil (At.then (At.seq (At.seq (At.region (L.mv Z Z (aN Z Z (aE 5 Z Z Z (aX Z Z Z Z (L.nil (At.then (aj Z (At.skip (At.then (At.seq (At.region ?_)))))))))))))))))))
 refine L.mv Z Z (aN Z Z (aE 1 Z Z Z (aX Z Z Z Z (L.mv Z Z ?_))))
 refine L.val Z (iR (m := cC M) (a := name) (v := aL bs) Z gM Z Z (by rw [iF, hM]; rfl)) (fv .head) ?_
 refine L.mv Z Z (L.ex Z Z Z (L.ex Z Z Z (L.as Z Z (L.as Z Z (L.nil (At.then (At.seq (At.seq (At.region (L.mv Z Z (L.pure Z (ck Z Z) (L.nil (At.then (aj Z (At.skip (At.then (At.seq (At.region (L.mv Z Z ?_)))))))))))))))))))
 refine aN Z Z (L.val Z (aa (v := bG s) Z Z) (rx hP (.tail (.tail (.tail .head)))) (L.op Z (za Z Z Z Z Z fun b28 c28 fz hc28 => (L.as Z Z (L.as Z Z (L.nil (At.then (At.ret ?_))))))))
 refine dd [jj b28 c28 s fz, ak d ⟨dur, now, pend, left, full, false⟩] rfl Z Z ⟨b28, c28, fz, hc28, rfl, rfl⟩ ?_
 refine Ent.cons (Ent.trans ?_ (bJ q ⟨dur, now, pend, left, full, false⟩))
 refine Ent.trans (bQ hN) ?_
 show Ent _ (_ :: aS q.md q.P dur :: aS q.mn q.P now :: cW q.P :: _ :: fr)
 exact ao
end Go.Proofs.YtmeegfamopaljaaGreatDoor

namespace Go.Proofs.YtmeegfamopaljaaGreatDoor
open Go Go.RowKit Go.SL
variable {G : Env → Prop}
theorem qT {s : ByteArray} (hl : s.size ≤ 18) (h : Lib.atoi s.data.toList = none) : Does Tryz.prog Good 169 [bG s].toArray [] fun v m => (∃ t x, v = .tuple #[.int .i64 0, .iface t x]) ∧ m = [] := fun E w fr hE hw => by
 obtain ⟨t, p, hs⟩ := hE.syn w hw.is
 exact (jm s hl h _ w hs (.inr ⟨_, _, rfl⟩)).mono fun e w' ⟨N, he, _, _, hb⟩ => ⟨_, [], he, ⟨⟨_, _, rfl⟩, rfl⟩, hw.below hb⟩
theorem v8 (s p : ByteArray) : Does Tryz.prog G 170 [bG s, bG p].toArray [] fun v m => v = bG ⟨(Lib.trimPrefix s.data.toList p.data.toList).toArray⟩ ∧ m = [] :=
 (du (φ := fun _ => True) fun _ w _ _ _ => (iT s p w).mono fun _ _ ⟨h1, h2⟩ => ⟨h1, by rw [h2]; exact Below.refl _ _⟩).does
theorem wR : (⟨(Lib.trimPrefix (FK.aW 0).data.toList (⟨#[98, 97, 115, 101]⟩ : ByteArray).data.toList).toArray⟩ : ByteArray) = FK.aW 0 := by decide +kernel
theorem wV : Lib.atoi (FK.aW 0).data.toList = none := by decide +kernel
theorem wT : (FK.aW 0).size ≤ 18 := by decide +kernel
theorem wS : FK.ki [FK.aW 0] = [FK.aW 0] := by simp [FK.ki]
theorem wU : (!((FK.aW 0).toList == ((⟨#[98, 97, 115, 101]⟩ : ByteArray) ++ FK.m6 0).toList)) = true := by decide +kernel
theorem zj : (!((FK.aW 0).toList == ((⟨#[108, 111, 103]⟩ : ByteArray) ++ FK.m6 0).toList)) = false := by decide +kernel
theorem BL {d : Nat} {l : List (List UInt8)} (hl : (FK.bH l).length ≤ 1000000000) : Does Tryz.prog G 330 [aL d].toArray [ak d (FK.cY l 1)] fun v m => v = .nilIface ∧ m = [ak d (FK.cY l 2)] := by
 have := iL (G := G) (d := d) (σ := FK.cY l 1) (by rw [(FK.qo l 1).2]; show _ + 0 ≤ _; omega) (by show 0 ≤ _; omega)
 rw [FK.wY] at this
 exact this
theorem BK {d : Nat} {l : List (List UInt8)} (hl : (FK.bH l).length ≤ 1000000000) : Does Tryz.prog G 330 [aL d].toArray [ak d (FK.cY l 2)] fun v m => v = .nilIface ∧ m = [ak d (FK.cY l 3)] := by
 have := iL (G := G) (d := d) (σ := FK.cY l 2) (by rw [(FK.qo l 2).2]; show _ + 0 ≤ _; omega) (by show 0 ≤ _; omega)
 rw [FK.wX] at this
 exact this
theorem AK (l : List (List UInt8)) (k : Int) : FK.dx (FK.cY l k).now (FK.aW 0) = some (cV (FK.bH l)) := by
 have e : (FK.aW 0 == FK.aW 0) = true := (MapKept.bytes_beq _ _).2 rfl
 simp [FK.cY, FK.dx, e]
theorem wz {b c : Nat} {l : List UInt8} {fz : Nat × Nat} : Reads (jj b c (cV l) fz) (some ⟨b, 0, none⟩) l := by
 have h := wA (b := b) (c := c) (s := cV l) (fz := fz)
 have e : (cV l).data.toList = l := by
  show l.toArray.toList = l
  simp
 rwa [e] at h
theorem _root_.FK.Reds.nil_eq {S U : FK.En} (h : FK.Reds S [] U) : U = S := by
 cases h
 rfl
theorem _root_.FK.Reds.cons_eq {S U : FK.En} {b : List UInt8} {l : List (List UInt8)} (h : FK.Reds S (b :: l) U) : ∃ S', FK.Fine S ∧ b.length ≤ 1000000001 ∧ FK.Redo S b S' ∧ FK.Reds S' l U := by
 cases h with
 | cons a1 a2 a3 a4 => exact ⟨_, a1, a2, a3, a4⟩
abbrev xQ (f : Nat) : Value := .func (.func 110) #[aL f] #[]
set_option maxRecDepth 10000 in
set_option maxHeartbeats 4000000 in
theorem sF {f e d : Nat} {p : EA} {S U : FK.En} {l : List (List UInt8)} (v1 : Value) (hl : (FK.bH l).length ≤ 1000000000) (hR : FK.Reds S l U) : Does Tryz.prog Good 107 [mI d, v1, xQ f].toArray [ak d (FK.cY l 1), gj f e (.pointer none), ap e p S] fun v m => ∃ j p', v = .tuple #[aL j, .nilIface] ∧ m = [aD j d FK.J0, ak d (FK.cY l 3), gj f e (.pointer none), ap e p' U] := by
 refine kC Tryz.func107 Z Z fun E fr hE => ?_
 refine cu (At.seq (At.region (L.op Z (aH (z := .pointer none) Z Z fun b6 => (L.op Z (aH (z := .nilIface) Z Z fun b7 => (L.nil (At.then (At.seq (At.region (L.mv Z Z (L.pure Z (bg (ps := [(0, .tmp 25)]) (vs := [mI d]) (cs := l9 d FK.J0) Z Z Z Z Z) (L.op Z (cc Z Z fun b27 => (ax b27 (l9 d FK.J0) Z ?_)))))))))))))))
 refine L.st Z Z Z Z (by first | decide | simp | (simp; omega)) ?_
 refine ax b6 #[aL b27] rfl (L.nil (At.then (At.seq (At.region ?_))))
 refine L.pure Z (ea Z Z) ?_
 refine L.op Z (qm Z (L.nil (At.then (At.seq (At.seq (At.region (L.mv Z Z ?_)))))))
 refine L.op Z (ef Z Z Z (rc ⟨d, 0, none⟩) Z hE (BL hl) (Ent.sel (.tail (.tail (.tail .head)))) ?_)
 rintro v m ⟨rfl, rfl⟩
 refine ai ?_
 refine L.st Z Z Z Z (by first | decide | simp | (simp; omega)) ?_
 refine ax b7 #[.nilIface] rfl (At.ent (l' := blk b7 109 #[.nilIface] :: blk b6 169 #[aL b27] :: aD b27 d FK.J0 :: ak d (FK.cY l 2) :: gj f e (.pointer none) :: ap e p S :: fr) ao (L.nil (At.then (At.seq (At.region (aX Z Z Z Z (L.pure Z (cb Z Z) (L.nil (At.then (aj Z (At.skip (At.then (At.seq (At.region (L.mv Z Z ?_)))))))))))))))
 refine L.op Z (ef Z Z Z (yw ⟨d, 0, none⟩) Z hE (uf Z (by show 1 ≤ 1000000; omega)) (Ent.sel (.tail (.tail (.tail .head)))) ?_)
 rintro v m ⟨ns, A9, c9, hns, rfl, rfl⟩
 refine aF ?_
 obtain rfl : ns = [FK.aW 0] := List.perm_singleton.1 hns
 rw [wS]
 refine aJ .head ?_
 rintro A8 c8 hA8 f1 f2 - - -
 obtain ⟨rfl, rfl⟩ : A9 = A8 ∧ c9 = c8 := by injection hA8 with a1 _ a3; exact ⟨a1, a3⟩
 obtain ⟨g9, rfl⟩ : ∃ g, A9 = some ⟨g, 0, none⟩ := by
  cases A9 with
  | none => have := (f1 rfl).1; cases this
  | some ad => obtain ⟨g, rfl⟩ := f2 ad rfl; exact ⟨g, rfl⟩
 refine L.mv Z Z (L.ex Z Z Z (L.ex Z Z Z (L.as Z Z ?_)))
 refine L.st Z Z Z Z (by first | decide | simp | (simp; omega)) ?_
 refine ax b7 #[.nilIface] rfl ?_
 refine At.ent (l' := blk b7 109 #[.nilIface] :: blk b6 169 #[aL b27] :: aD b27 d FK.J0 :: ak d (FK.cY l 2) :: row 9 1 (.slice (some ⟨g9, 0, none⟩) 1 c9) 1 [bG (FK.aW 0)] :: gj f e (.pointer none) :: ap e p S :: fr) (by show Ent (blk b7 109 #[.nilIface] :: row 9 1 (.slice (some ⟨g9, 0, none⟩) 1 c9) 1 [bG (FK.aW 0)] :: ak d (FK.cY l 2) :: blk b6 169 #[aL b27] :: aD b27 d FK.J0 :: gj f e (.pointer none) :: ap e p S :: fr) _; exact ao) ?_
 refine L.nil (At.then (At.seq (At.seq (At.region (aX Z Z Z Z (L.pure Z (cb Z Z) (L.nil (At.then (aj Z (At.skip (At.then (At.seq (At.region (L.as Z Z (L.nil (At.then (At.seq (At.seq (At.region ?_)))))))))))))))))))
 refine L.mv Z Z (L.pure Z (aP Z Z) (L.mv Z Z (L.nil (At.then (At.block ?_)))))
 refine aT (X := Nat) (fun k => [(42, .int .i64 k), (41, .int .i64 1), (40, .slice (some ⟨g9, 0, none⟩) 1 c9), (9, .slice none 0 0), (8, .slice (some ⟨g9, 0, none⟩) 1 c9), (7, aL b7), (6, aL b6), (2, xQ f), (1, v1), (0, mI d)]) (fun _ => blk b7 109 #[.nilIface] :: blk b6 169 #[aL b27] :: aD b27 d FK.J0 :: ak d (FK.cY l 2) :: row 9 1 (.slice (some ⟨g9, 0, none⟩) 1 c9) 1 [bG (FK.aW 0)] :: gj f e (.pointer none) :: ap e p S :: fr) (fun k => k ≤ 1) (fun k => 1 - k) 0 (Nat.zero_le _) ⟨rfl, rfl, rfl, rfl, rfl, rfl, rfl, rfl, rfl, rfl, trivial⟩ (Ent.refl _) ?_
 intro k hk
 refine At.seq (At.region (L.pure Z (bf Z Z Z) (L.nil (At.then (At.seq ?_)))))
 refine aC Z (fun c43 => ?_) (fun c43 => ?_)
 ·
  obtain rfl : k = 0 := by have : (k : Int) < 1 := c43; omega
  refine At.skip (At.then (At.seq (At.block (At.seq (At.region ?_)))))
  refine L.pure Z (bD (z := 1) Z Z Z Z (by omega)) ?_
  refine L.val Z (aa (v := bG (FK.aW 0)) Z Z) (iw (.tail (.tail (.tail (.tail .head)))) Z) (L.as Z Z (L.nil (At.then (At.seq (At.region (L.mv Z Z ?_))))))
  refine L.op Z (ah Z Z Z hE (v8 (FK.aW 0) ⟨#[98, 97, 115, 101]⟩) (Ent.refl _) ?_)
  rintro v m ⟨rfl, rfl⟩
  refine ay ?_
  rw [wR]
  refine L.op Z (ah Z Z Z hE (qT wT wV) (Ent.refl _) ?_)
  rintro v m ⟨⟨t49, x49, rfl⟩, rfl⟩
  refine ay (L.mv Z Z (L.ex Z Z Z (L.ex Z Z Z (L.as Z Z (L.as Z Z (L.nil (At.then (At.seq (At.seq (At.region (L.mv Z Z (L.pure Z (fg Z Z) (L.mv Z Z (L.off Z Z Z Z Z Z (L.off Z Z Z Z Z Z (L.off Z Z Z Z Z Z (L.off Z Z Z Z Z Z (L.off Z Z Z Z Z Z (L.off Z Z Z Z Z Z ?_)))))))))))))))))))
  refine L.pure Z (aM Z Z Z) (L.nil (At.then (aR Z (At.exit (au (an (At.then (At.region (L.pure Z (aO (r := 1) Z Z Z) (L.mv Z Z (L.nil ?_)))))))))))
  exact At.round 1 (Nat.le_refl _) (by omega) ⟨rfl, rfl, rfl, rfl, rfl, rfl, rfl, rfl, rfl, rfl, trivial⟩ (Ent.refl _)
 ·
  refine At.exit (au (ar (an (At.then (At.seq (Dr.start Z (dP 0 Z Z (ag Z) (dL 1 Z Z (aa Z Z) (ae Z) (dP 2 Z Z (aq Z) (dP 3 Z Z (ab (off := 1) Z Z) (dL 4 Z Z (aa Z Z) (ae Z) (dP 6 Z Z (qs Z) (dP 7 Z Z (ag Z) ?_)))))))))))))
  refine dR 5 Z Z (ah Z Z Z hE (iO (kind := ⟨#[108, 111, 103]⟩) (n := 0) (by omega) (by decide)) (Ent.refl _) ?_)
  rintro v m ⟨rfl, rfl⟩
  refine ay ?_
  refine Dr.kept [false, true] (by kernel_rfl) (Kept.cons (ae Z) Kept.nil) ?_
  refine dR 8 Z Z (ef Z Z Z (Br ⟨d, 0, none⟩) Z hE (wB (σ := FK.cY l 2) (name := FK.aW 0) (s := cV (FK.bH l)) Z (AK l 2)) (Ent.sel (.tail (.tail (.tail .head)))) ?_)
  rintro v m ⟨b98, c98, fz, hc98, rfl, rfl⟩
  refine aF ?_
  refine Dr.kept [true] (by kernel_rfl) (Kept.cons (ae Z) Kept.nil) ?_
  refine dP 9 Z Z (ag Z) (dP 10 Z Z (aU Z Z) (dP 11 Z Z (aU Z Z) (dP 12 Z Z (az Z) ?_)))
  refine dR 13 Z Z (bC Z Z Z Z Z (by show 0 < 1; omega) ?_)
  refine ax b7 #[.nilIface] rfl ?_
  rw [jx] at hc98 ⊢
  refine At.ent (l' := blk b7 109 #[.nilIface] :: blk b6 169 #[aL b27] :: aD b27 d FK.J0 :: ak d (FK.cY l 2) :: row 9 1 (.slice (some ⟨g9, 0, none⟩) 1 c9) 1 [bG (FK.aW 0)] :: gj f e (.pointer none) :: ap e p S :: jj b98 c98 (cV (FK.bH l)) fz :: fr) ao ?_
  refine Dr.kept [false] (by kernel_rfl) Kept.nil ?_
  refine dE (At.then (At.seq (At.seq (At.region (aX Z Z Z Z (L.pure Z (cb Z Z) (L.mv Z Z (L.off Z Z Z Z Z Z (L.off Z Z Z Z Z Z (L.off Z Z Z Z Z Z (L.off Z Z Z Z Z Z (L.pure Z (aM Z Z Z) (L.nil (At.then (aj Z (At.skip (At.then (At.seq (At.seq ?_)))))))))))))))))))
  refine At.region (L.mv Z Z (L.pure Z (oe Z Z Z) (L.nil (At.then (aj Z (At.skip (At.then (At.seq (At.block ?_)))))))))
  refine aT (X := List (List UInt8) × FK.En × EA × Option Addr × Nat) (fun x => [(19, .slice x.2.2.2.1 (FK.bH x.1).length x.2.2.2.2), (8, .slice (some ⟨g9, 0, none⟩) 1 c9), (7, aL b7), (6, aL b6), (2, xQ f), (0, mI d)]) (fun x => blk b7 109 #[.nilIface] :: blk b6 169 #[aL b27] :: aD b27 d FK.J0 :: ak d (FK.cY l 2) :: row 9 1 (.slice (some ⟨g9, 0, none⟩) 1 c9) 1 [bG (FK.aW 0)] :: gj f e (.pointer none) :: ap e x.2.2.1 x.2.1 :: jj b98 c98 (cV (FK.bH l)) fz :: fr) (fun x => FK.Reds x.2.1 x.1 U ∧ Reads (jj b98 c98 (cV (FK.bH l)) fz) x.2.2.2.1 (FK.bH x.1) ∧ (FK.bH x.1).length ≤ x.2.2.2.2 ∧ (FK.bH x.1).length ≤ 1000000000) (fun x => x.1.length) (l, S, p, some ⟨b98, 0, none⟩, c98) ⟨hR, wz, hc98, hl⟩ ⟨rfl, rfl, rfl, rfl, rfl, rfl, trivial⟩ (Ent.refl _) ?_
  rintro ⟨l1, S1, p1, A1, c1⟩ ⟨hR1, hp1, hc1, hl1⟩
  simp only at hR1 hp1 hc1 hl1
  refine At.ent (l' := blk b7 109 #[.nilIface] :: blk b6 169 #[aL b27] :: aD b27 d FK.J0 :: ak d (FK.cY l 2) :: row 9 1 (.slice (some ⟨g9, 0, none⟩) 1 c9) 1 [bG (FK.aW 0)] :: gj f e (.pointer none) :: ap e p1 S1 :: jj b98 c98 (cV (FK.bH l)) fz :: fr) (Ent.refl _) ?_
  refine At.seq (At.seq ?_)
  by_cases HL : l1 = []
  ·
   subst HL
   obtain rfl := hR1.nil_eq
   refine At.region (L.mv Z Z (L.pure Z (aP Z Z) (L.pure Z (dZ (r := false) Z Z Z) (L.mv Z Z (L.off Z Z Z Z Z Z (L.off Z Z Z Z Z Z (L.off Z Z Z Z Z Z (L.off Z Z Z Z Z Z (L.off Z Z Z Z Z Z (L.pure Z (aM Z Z Z) (L.nil (At.then (aj Z (At.exit (au (ar (an (At.then (At.seq (At.seq (At.region (L.mv Z Z ?_))))))))))))))))))))))
   refine L.pure Z (aP Z Z) (L.mv Z Z (L.nil (At.then (At.block ?_))))
   refine aT (X := Nat) (fun k => [(142, .int .i64 k), (141, .int .i64 1), (140, .slice (some ⟨g9, 0, none⟩) 1 c9), (7, aL b7), (6, aL b6), (0, mI d)]) (fun _ => blk b7 109 #[.nilIface] :: blk b6 169 #[aL b27] :: aD b27 d FK.J0 :: ak d (FK.cY l 2) :: row 9 1 (.slice (some ⟨g9, 0, none⟩) 1 c9) 1 [bG (FK.aW 0)] :: gj f e (.pointer none) :: ap e p1 U :: jj b98 c98 (cV (FK.bH l)) fz :: fr) (fun k => k ≤ 1) (fun k => 1 - k) 0 (Nat.zero_le _) ⟨rfl, rfl, rfl, rfl, rfl, rfl, trivial⟩ (Ent.refl _) ?_
   intro k hk
   refine At.seq (At.region (L.pure Z (bf Z Z Z) (L.nil (At.then (At.seq ?_)))))
   refine aC Z (fun c143 => ?_) (fun c143 => ?_)
   ·
    obtain rfl : k = 0 := by have : (k : Int) < 1 := c143; omega
    refine At.skip (At.then (At.seq (At.block (At.seq (At.region ?_)))))
    refine L.pure Z (bD (z := 1) Z Z Z Z (by omega)) ?_
    refine L.val Z (aa (v := bG (FK.aW 0)) Z Z) (iw (.tail (.tail (.tail (.tail .head)))) Z) (L.as Z Z (L.nil (At.then (At.seq (At.region (L.mv Z Z (aX Z Z Z Z (aN Z Z (aE 1 Z Z Z (aX Z Z Z Z ?_))))))))))
    refine L.op Z (ah Z Z Z hE (iO (kind := ⟨#[98, 97, 115, 101]⟩) (n := 0) (by omega) (by decide)) (Ent.refl _) ?_)
    rintro v m ⟨rfl, rfl⟩
    refine ay (L.pure Z (pE Z Z Z wU) (L.mv Z Z (lT Z Z Z (ag Z) (lA Z Z Z (aa Z Z) (ae Z) (lT Z Z Z (aq Z) (lT Z Z Z (ab (off := 1) Z Z) (lA Z Z Z (aa Z Z) (ae Z) ?_)))))))
    refine L.on Z Z Z (ah Z Z Z hE (iO (kind := ⟨#[108, 111, 103]⟩) (n := 0) (by omega) (by decide)) (Ent.refl _) ?_)
    rintro v m ⟨rfl, rfl⟩
    refine ay (lT Z Z Z (pE Z Z Z zj) (L.pure Z (aM Z Z Z) (L.nil (At.then (aj Z (At.skip (al (At.then (At.region (L.pure Z (aO (r := 1) Z Z Z) (L.mv Z Z (L.nil ?_))))))))))))
    exact At.round 1 (Nat.le_refl _) (by omega) ⟨rfl, rfl, rfl, rfl, rfl, rfl, trivial⟩ (Ent.refl _)
   ·
    refine At.exit (au (ar (an (At.then (At.seq (At.region (L.mv Z Z ?_)))))))
    refine L.op Z (ef Z Z Z (rc ⟨d, 0, none⟩) Z hE (BK hl) (Ent.sel (.tail (.tail (.tail .head)))) ?_)
    rintro v m ⟨rfl, rfl⟩
    refine ai ?_
    refine L.st Z Z Z Z (by first | decide | simp | (simp; omega)) ?_
    refine ax b7 #[.nilIface] rfl (L.nil (At.then (At.ret (At.leave (.inl Z) Z Z hE (nZ b6 b7) (Ent.refl _) ?_))))
    rintro m rfl
    refine ai ?_
    refine eW [aD b27 d FK.J0, ak d (FK.cY l 3), gj f e (.pointer none), ap e p1 U] rfl (eF Z Z (ae Z)) (eF Z Z (ae Z)) ⟨b27, p1, rfl, rfl⟩ ?_
    show Ent _ (aD b27 d FK.J0 :: ak d (FK.cY l 3) :: gj f e (.pointer none) :: ap e p1 U :: fr)
    exact ao
  ·
   obtain ⟨x, l2, rfl⟩ : ∃ x l2, l1 = x :: l2 := by
    cases l1 with
    | nil => exact absurd rfl HL
    | cons x l2 => exact ⟨x, l2, rfl⟩
   obtain ⟨S2, hF1, hx1, hx2, hR2⟩ := hR1.cons_eq
   have hfp := FK.xj x
   have hlen1 : (FK.bH (x :: l2)).length = (FK.frame x).length + (FK.bH l2).length := by rw [FK.my, List.length_append]
   refine At.region (L.mv Z Z (L.pure Z (aP Z Z) ?_))
   refine L.pure Z (dZ (r := true) Z Z (by simp; omega)) ?_
   refine L.mv Z Z (lA Z Z Z (aa Z Z) (ae Z) (lT Z Z Z (aq Z) (lT Z Z Z (ab (off := 2) Z Z) (lA Z Z Z (aa Z Z) (ae Z) (lT Z Z Z (ck Z Z) (L.pure Z (aM Z Z Z) (L.nil (At.then (aR Z (At.skip (At.then (At.block (At.seq (At.region (L.mv Z Z ?_)))))))))))))))
   refine L.op Z (ah Z Z Z hE (wN hp1 hc1 (Nat.le_trans hl1 (by omega))) (Ent.sel (.tail (.tail (.tail (.tail (.tail (.tail (.tail .head)))))))) ?_)
   rintro v m ⟨hv, rfl⟩
   refine ai ?_
   obtain ⟨A3, c3, A4, c4, rfl, hp3, hc3, hp4, hc4⟩ : ∃ A3 c3 A4 c4, v = .tuple #[.slice A3 x.length c3, .slice A4 (FK.bH l2).length c4, .bool true] ∧ Reads (jj b98 c98 (cV (FK.bH l)) fz) A3 x ∧ x.length ≤ c3 ∧ Reads (jj b98 c98 (cV (FK.bH l)) fz) A4 (FK.bH l2) ∧ (FK.bH l2).length ≤ c4 := by
    have hnx := FK.ue x (FK.bH l2) (by omega)
    rw [FK.my] at hv
    rcases hv with ⟨h, _⟩ | ⟨x', r', A3, c3, A4, c4, h, hv, h1, h2, h3, h4⟩
    · rw [hnx] at h; cases h
    · rw [hnx] at h
      injection h with h
      injection h with e1 e2
      subst e1; subst e2
      exact ⟨A3, c3, A4, c4, hv, h1, h2, h3, h4⟩
   refine L.mv Z Z (L.ex Z Z Z (L.ex Z Z Z (L.ex Z Z Z (L.as Z Z (L.as Z Z (L.as Z Z (L.nil (At.then (At.seq (At.region (aX Z Z Z Z (L.mv Z Z (L.pure Z (ck Z Z) (aN Z Z (aE 2 Z Z Z ?_)))))))))))))))
   refine L.st Z Z Z Z (by first | decide | simp | (simp; omega)) ?_
   refine ax b27 (l9 d FK.J0) Z (L.nil (At.then (At.seq (At.region (L.mv Z Z (L.nil (At.then (aR Z (At.seq (At.region (L.mv Z Z (L.mv Z Z (L.op Z (jO Z Z Z Z hE (wy hF1 hx2 hp3 hc3) (bX (.tail (.tail (.tail (.tail (.tail (.tail .head)))))) (.tail (.tail (.tail (.tail (.tail (.tail .head)))))) (.tail .head)) ?_))))))))))))))
   rintro v m ⟨rfl, p2, rfl⟩
   refine cu (L.nil (At.then (At.region (L.mv Z Z (L.as Z Z (L.nil (al ?_)))))))
   refine At.round (l2, S2, p2, A4, c4) ⟨hR2, hp4, hc4, by show (FK.bH l2).length ≤ 1000000000; omega⟩ (by show l2.length < (x :: l2).length; simp) ⟨rfl, rfl, rfl, rfl, rfl, rfl, trivial⟩ ?_
   show Ent _ (blk b7 109 #[.nilIface] :: blk b6 169 #[aL b27] :: aD b27 d FK.J0 :: ak d (FK.cY l 2) :: row 9 1 (.slice (some ⟨g9, 0, none⟩) 1 c9) 1 [bG (FK.aW 0)] :: gj f e (.pointer none) :: ap e p2 S2 :: jj b98 c98 (cV (FK.bH l)) fz :: fr)
   exact ao
end Go.Proofs.YtmeegfamopaljaaGreatDoor

namespace Go.Proofs.YtmeegfamopaljaaGreatDoor
open Go Go.RowKit Go.SL
variable {G : Env → Prop}
theorem xI {vs : List Value} {ns : List FK.Node} {i : Nat} {u : Value} {nd : FK.Node} (hu : vs[i]? = some u) (hn : ns[i]? = some nd) : bB (vs.drop i) (ns.drop i) = bh u nd.after :: bB (vs.drop (i + 1)) (ns.drop (i + 1)) := by
 obtain ⟨h1, h2⟩ := List.getElem?_eq_some_iff.1 hu
 obtain ⟨h3, h4⟩ := List.getElem?_eq_some_iff.1 hn
 rw [List.drop_eq_getElem_cons h1, List.drop_eq_getElem_cons h3, h2, h4]
 rfl
set_option maxRecDepth 10000 in
theorem lJ (dl : Int) (A : Option Addr) (c : Nat) (ns : List FK.Node) : Does Tryz.prog G 47 [.agg #[.int .i64 dl, .slice A ns.length c]].toArray [nodesOwn (.slice A ns.length c) ns] fun v m => v = .tuple #[] ∧ m = [] := by
 refine Does.body Tryz.func47 Z Z fun E fr hE => ?_
 refine ai (ln .head ?_)
 intro vs hvs
 refine aJ .head ?_
 intro A' c' hA hnil hform hc1 hc2 hlen
 injection hA with hA _ hcc
 subst hA; subst hcc
 have hc3 : c ≤ 9223372036854775807 := by unfold maxLen at hc2; omega
 refine At.seq (At.region (L.op Z (cc Z Z fun b1 => (L.nil (At.then (At.seq (At.region (aE 1 Z Z Z (aX Z Z Z Z (L.pure Z (aP Z Z) (L.mv Z Z (L.nil (At.then (At.block ?_))))))))))))))
 refine aT (X := Nat × List Value) (fun x => [(7, .int .i64 x.1), (6, .int .i64 ns.length), (1, .pointer (some ⟨b1, 0, none⟩))]) (fun x => blk b1 29 #[.int .i64 dl, .slice A ns.length c] :: row 46 7 (.slice A ns.length c) ns.length x.2 :: (bB (vs.drop x.1) (ns.drop x.1) ++ fr)) (fun x => x.1 ≤ ns.length ∧ x.2.length = ns.length * 7 ∧ ∀ j u, x.1 ≤ j → vs[j]? = some u → x.2[j * 7 + 6]? = some u) (fun x => ns.length - x.1) (0, bl ns vs) ⟨by omega, hlen, fun j u _ hu => (by obtain ⟨h1, _⟩ := List.getElem?_eq_some_iff.1 hu; rw [iN ns vs j 6 ns[j] u hvs (by simp) hu (by omega)]; rfl)⟩ ⟨rfl, rfl, rfl, trivial⟩ (Ent.refl _) ?_
 rintro ⟨i, xs⟩ ⟨hi, hxl, hxs⟩
 simp only at hi hxl hxs ⊢
 refine At.seq (At.region (L.pure Z (bf Z Z Z) (L.nil (At.then (At.seq ?_)))))
 refine aC Z (fun c8 => ?_) (fun c8 => ?_)
 ·
  have hlt : i < ns.length := by omega
  obtain ⟨g, rfl⟩ : ∃ g, A = some ⟨g, 0, none⟩ := by
   cases A with
   | none => have := (hnil rfl).1; omega
   | some ad => obtain ⟨g, rfl⟩ := hform ad rfl; exact ⟨g, rfl⟩
  obtain ⟨nd, db⟩ : ∃ nd, ns[i]? = some nd := ⟨ns[i], by simp [hlt]⟩
  obtain ⟨u, hu⟩ : ∃ u, vs[i]? = some u := ⟨vs[i]'(by omega), by simp⟩
  rw [xI hu db]
  refine aJ (.tail (.tail (.head))) ?_
  rintro A6 c6 rfl hnil6 hform6 h61 h62 h63
  have h64 : c6 ≤ 9223372036854775807 := by unfold maxLen at h62; omega
  refine At.skip (At.then (At.seq (At.block (At.seq (At.region (L.mv Z Z (L.as Z Z (L.nil (At.then (At.seq (At.seq (At.region (aE 1 Z Z Z (aX Z Z Z Z (L.mv Z Z (L.pure Z (bD (z := 7) Z Z Z Z hlt) (aE 6 Z Z Z ?_)))))))))))))))))
  refine L.val Z (aa Z Z) (iw (.tail (.head)) (by simpa using hxs i _ (Nat.le_refl _) hu)) ?_
  refine L.pure Z (aP Z Z) (L.mv Z Z (L.nil (At.then (At.block ?_))))
  refine aT (X := Nat × List Value) (fun x => [(17, .int .i64 x.1), (16, .int .i64 nd.after.length), (2, .int .i64 i), (7, .int .i64 i), (6, .int .i64 ns.length), (1, .pointer (some ⟨b1, 0, none⟩))]) (fun x => row 3 1 (.slice A6 nd.after.length c6) nd.after.length x.2 :: blk b1 29 #[.int .i64 dl, .slice (some ⟨g, 0, none⟩) ns.length c] :: row 46 7 (.slice (some ⟨g, 0, none⟩) ns.length c) ns.length xs :: (bB (vs.drop (i + 1)) (ns.drop (i + 1)) ++ fr)) (fun x => x.1 ≤ nd.after.length) (fun x => nd.after.length - x.1) (0, cI nd.after) (by omega) ⟨rfl, rfl, rfl, rfl, rfl, rfl, trivial⟩ (Ent.sel (.tail (.tail (.head)))) ?_
  rintro ⟨k, ys⟩ hk
  simp only at hk ⊢
  refine At.seq (At.region (L.pure Z (bf Z Z Z) (L.nil (At.then (At.seq ?_)))))
  refine aC Z (fun c18 => ?_) (fun c18 => ?_)
  ·
   have hlt2 : k < nd.after.length := by omega
   obtain ⟨g6, rfl⟩ : ∃ g, A6 = some ⟨g, 0, none⟩ := by
    cases A6 with
    | none => have := (hnil6 rfl).1; omega
    | some ad => obtain ⟨g, rfl⟩ := hform6 ad rfl; exact ⟨g, rfl⟩
   refine At.skip (At.then (At.seq (At.block (At.seq (At.region (L.mv Z Z (L.as Z Z (L.nil (At.then (At.region (aE 1 Z Z Z (aX Z Z Z Z (L.mv Z Z (L.pure Z (bD (z := 7) Z Z Z Z hlt) (aE 6 Z Z Z ?_)))))))))))))))
   refine L.val Z (aa Z Z) (iw (.tail (.tail (.head))) (by simpa using hxs i _ (Nat.le_refl _) hu)) ?_
   refine L.mv Z Z (L.pure Z (bD (z := 1) Z Z Z Z hlt2) ?_)
   refine L.op Z (fd .head Z Z Z Z (by omega) ?_)
   refine L.nil (al (At.then (At.region ?_)))
   refine L.pure Z (aO Z Z (cT (by omega))) ?_
   refine L.mv Z Z (L.nil ?_)
   exact At.round (k + 1, _) (by simp only; omega) (by simp only; omega) ⟨rfl, rfl, rfl, rfl, rfl, rfl, trivial⟩ (Ent.refl _)
  ·
   refine At.exit (au (ar (an (At.then (At.region (aE 1 Z Z Z (aX Z Z Z Z (L.mv Z Z (L.pure Z (bg (ps := []) (vs := []) (cs := #[.int .i64 0, .int .i64 0, .int .i64 0, .int .i64 0, .int .i64 0, .int .i64 0, .slice none 0 0]) Z Z Z Z Z) (L.pure Z (bD (z := 7) Z Z Z Z hlt) ?_))))))))))
   refine L.op Z (jE (k := 7) (vs := [.int .i64 0, .int .i64 0, .int .i64 0, .int .i64 0, .int .i64 0, .int .i64 0, .slice none 0 0]) (.tail (.tail (.head))) Z Z Z Z (by simp [Value.oneCell']) (by omega) ?_)
   refine L.nil (al (At.then (At.region ?_)))
   refine L.pure Z (aO Z Z (cT (by omega))) ?_
   refine L.mv Z Z (L.nil ?_)
   exact At.round (i + 1, ip xs (0 + i * 7) [.int .i64 0, .int .i64 0, .int .i64 0, .int .i64 0, .int .i64 0, .int .i64 0, .slice none 0 0]) ⟨by simp only; omega, by simp only [er]; exact hxl, fun j u hj hu => (by simp only at hj ⊢; rw [f7 _ _ _ _ (by simp; omega)]; exact hxs j u (by omega) hu)⟩ (by simp only; omega) ⟨rfl, rfl, rfl, trivial⟩ ((Ent.cons Ent.drop).trans (Ent.perm (List.Perm.swap _ _ _)))
 ·
  refine At.exit (au (ar (an ?_)))
  exact aZ [] rfl ⟨rfl, rfl⟩ (Ent.drop.trans (Ent.drop.trans (qt _)))
end Go.Proofs.YtmeegfamopaljaaGreatDoor

namespace Go.Proofs.YtmeegfamopaljaaGreatDoor
open Go Go.RowKit Go.SL
variable {G : Env → Prop}
end Go.Proofs.YtmeegfamopaljaaGreatDoor

namespace Go.Proofs.YtmeegfamopaljaaGreatDoor
open Go Go.RowKit Go.Deep
def ChkPost (w : World) (p : Int × Int) (e : Ending) (w' : World) : Prop := e = .returned (.tuple #[.int .i64 p.1, .int .i64 p.2]) ∧ Below w.heap.size w w'
def FreeTo (l : List FK.Node) (g : List Bool) (i m : Nat) (b : Bool) : Prop := b = true ↔ ∀ k ∈ (FK.cO l i).take m, g[k]? = some true
theorem FreeTo.start (l : List FK.Node) (g : List Bool) (i : Nat) : FreeTo l g i 0 true := by simp [FreeTo]
theorem FreeTo.next {l : List FK.Node} {g : List Bool} {i m x : Nat} {b c : Bool} (h : FreeTo l g i m b) (hx : (FK.cO l i)[m]? = some x) (hg : g[x]? = some c) : FreeTo l g i (m + 1) (b && c) := by
 obtain ⟨hm, hx⟩ := List.getElem?_eq_some_iff.1 hx
 unfold FreeTo at *
 rw [List.take_succ_eq_append_getElem hm, hx]
 rw [Bool.and_eq_true, h]
 constructor
 · rintro ⟨h1, h2⟩ k hk
   simp at hk
   rcases hk with hk | rfl
   · exact h1 k hk
   · rw [hg, h2]
 · intro hk
   refine ⟨fun k hk' => hk k (by simp [hk']), ?_⟩
   have := hk x (by simp)
   rw [hg] at this
   exact Option.some.inj this
theorem ChkPost.mk {w w' : World} {p : Int × Int} (hb : Below w.heap.size w w') : ChkPost w p (.returned (.tuple #[.int .i64 p.1, .int .i64 p.2])) w' := ⟨rfl, hb⟩
def LastRel (len : Nat) (l : List Int) (m : Nat) : Prop := FK.EdgesOk len (-1) l ↔ FK.EdgesOk len (if m = 0 then -1 else l.getD (m - 1) 0) (l.drop m)
end Go.Proofs.YtmeegfamopaljaaGreatDoor

namespace Go.Proofs.YtmeegfamopaljaaGreatDoor
open Go Go.RowKit Go.Deep
theorem LastRel.start (len : Nat) (l : List Int) : LastRel len l 0 := by simp [LastRel]
theorem LastRel.at_ {len : Nat} {l : List Int} {m : Nat} {x prev : Int} (h : LastRel len l m) (hx : l[m]? = some x) (hp : 0 < m → l[m - 1]? = some prev) :
 FK.EdgesOk len (-1) l ↔ ((if m = 0 then -1 else prev) < x ∧ x < len ∧ FK.EdgesOk len x (l.drop (m + 1))) := by
 obtain ⟨hm, hx⟩ := List.getElem?_eq_some_iff.1 hx
 unfold LastRel at h
 rw [h, ol hm, hx]
 by_cases h0 : m = 0
 · simp [h0]
 · have := hp (by omega)
   simp [h0, this]
theorem LastRel.next {len : Nat} {l : List Int} {m : Nat} {x prev : Int} (h : LastRel len l m) (hx : l[m]? = some x) (hp : 0 < m → l[m - 1]? = some prev) (h1 : (if m = 0 then -1 else prev) < x) (h2 : x < len) : LastRel len l (m + 1) := by
 have := h.at_ hx hp
 unfold LastRel
 rw [this]
 simp [h1, h2, hx]
theorem LastRel.ended {len : Nat} {l : List Int} {m : Nat} (h : LastRel len l m) (hm : l.length ≤ m) : FK.EdgesOk len (-1) l := by
 unfold LastRel at h
 rw [h, List.drop_of_length_le hm]
 trivial
end Go.Proofs.YtmeegfamopaljaaGreatDoor

namespace Go.Proofs.YtmeegfamopaljaaGreatDoor
open Go Go.RowKit Go.SL
theorem Fit.enc {f : FK.Flow} (h : FK.Fit f) : ∃ d : Nat, f.deadline = d ∧ d ≤ 1048576 ∧ f.nodes.length ≤ 12 ∧ ∀ n ∈ f.nodes, FK.cf n ∧ FK.EdgesOk f.nodes.length (-1) n.after := by
 obtain ⟨⟨h1, h2⟩, h3, h4⟩ := h.head
 refine ⟨f.deadline.toNat, by omega, by omega, h4, fun n hn => ?_⟩
 obtain ⟨i, hi⟩ := List.getElem?_of_mem hn
 exact h.nodes i n (List.getElem?_eq_some_iff.1 hi).1 hi
set_option maxRecDepth 10000 in
theorem pA (dl : Int) (ns : List FK.Node) (A : Option Addr) (c : Nat) : Gives Tryz.prog Good 46 [.agg #[.int .i64 dl, .slice A ns.length c]].toArray (fun w => NodesAt w w.heap.size A c ns)
 fun v m => ((FK.chk ⟨dl, ns⟩).1 = 0 ∧ ∃ bv, v = .tuple #[bv, .nilIface] ∧ m = [bM bv (FK.bL ⟨dl, ns⟩)]) ∨ ((FK.chk ⟨dl, ns⟩).1 ≠ 0 ∧ ∃ b, v = .tuple #[.slice none 0 0, .iface 159 (.pointer (some ⟨b, 0, none⟩))] ∧ m = [blk b 164 #[.int .i64 (FK.chk ⟨dl, ns⟩).1, .int .i64 (FK.chk ⟨dl, ns⟩).2]]) := by
 refine Gives.body Tryz.func46 Z Z fun E w0 hE h0 hN => ?_
 refine At.seq (At.region (L.op Z (cc Z Z fun b1 => (L.as Z Z (L.as Z Z (L.nil (At.then (At.seq (At.seq ?_)))))))))
 by_cases hc0 : (FK.chk ⟨dl, ns⟩).1 = 0
 ·
  refine At.region (L.val Z (am (vs := [.int .i64 dl, .slice A ns.length c]) Z Z Z Z) (av Z) ?_)
  refine L.op Z (dC Z Z Z hE (gh ⟨dl, ns⟩ A c) (fe (.tail (.head)) h0 hN (Nat.le_refl _)) ?_)
  rintro v m hv
  obtain ⟨rfl, rfl⟩ := hv.ok hc0
  refine ay ?_
  obtain ⟨d, hd, hd1, hl, ho⟩ := Fit.enc (FK.zR hc0)
  simp only at hd hl ho
  subst hd
  refine L.as Z Z (L.nil (At.then (At.seq (At.region (L.mv Z Z (L.pure Z (cb Z Z) (L.nil (At.then (aj Z (At.skip (At.then (At.seq (At.region (L.val Z (am (vs := [.int .i64 d, .slice A ns.length c]) Z Z Z Z) (av Z) (L.op Z (dC Z Z Z hE (s9 d A c ns hd1 hl ho) (fe (.tail (.head)) h0 hN (Nat.le_refl _)) ?_))))))))))))))))
  rintro v m rfl
  refine ai (L.as Z Z (L.as Z Z (L.nil (At.then (At.ret ?_)))))
  exact dd [_] rfl Z Z (.inl ⟨hc0, _, rfl, rfl⟩) (Ent.cons Ent.drop)
 ·
  refine At.region (L.val Z (am (vs := [.int .i64 dl, .slice A ns.length c]) Z Z Z Z) (av Z) ?_)
  refine L.op Z (dC Z Z Z hE (gh ⟨dl, ns⟩ A c) (fe (.tail (.head)) h0 hN (Nat.le_refl _)) ?_)
  rintro v m hv
  obtain ⟨b, rfl, rfl⟩ := hv.bad hc0
  refine ai (L.as Z Z (L.nil (At.then (At.seq (At.region (L.mv Z Z (L.pure Z (fg Z Z) (L.nil (At.then (aR Z (At.seq (At.region (L.mv Z Z (L.as Z Z (L.as Z Z (L.nil (At.then (At.ret (aI ?_)))))))))))))))))))
  exact dd [_] rfl Z Z (.inr ⟨hc0, b, rfl, rfl⟩) (Ent.cons Ent.drop)
def Bo (f : FK.Flow) (v : Value) (m : List HP) : Prop :=
 ((FK.chk f).1 = 0 ∧ ∃ bv, v = .tuple #[bv, .int .i64 0, .int .i64 (-1)] ∧ m = [bM bv (FK.bL f)]) ∨ ((FK.chk f).1 ≠ 0 ∧ v = .tuple #[.slice none 0 0, .int .i64 (FK.chk f).1, .int .i64 (FK.chk f).2] ∧ m = [])
set_option maxRecDepth 10000 in
theorem lf (dl : Int) (ns : List FK.Node) (A : Option Addr) (c : Nat) (hfit : lb ns) : Gives Tryz.prog Good 20 [.agg #[.int .i64 dl, .slice A ns.length c]].toArray (fun w => NodesAt w w.heap.size A c ns) (Bo ⟨dl, ns⟩) := by
 refine Gives.body Tryz.func20 Z Z fun E w0 hE h0 hN => ?_
 refine At.seq (At.region (L.op Z (cc Z Z fun b1 => (L.as Z Z (L.as Z Z (L.as Z Z (L.nil (At.then (At.seq (At.region (L.val Z (am (vs := [.int .i64 dl, .slice A ns.length c]) Z Z Z Z) (av Z) (L.op Z (dC Z Z Z hE (ll dl A c ns hfit) (fe (.tail (.head)) h0 hN (Nat.le_refl _)) ?_)))))))))))))
 rintro v m ⟨A', c', rfl, rfl⟩
 refine ai (L.op Z (aH (z := .agg #[.int .i64 0, .slice none 0 0]) Z Z fun b5 => ?_))
 refine L.op Z (aG Z (m := 2) (vs := [.int .i64 dl, .slice A' ns.length c']) Z Z Z Z (by simp [Value.oneCell']) (by simp [Value.cells]) ?_)
 refine L.nil (At.then (At.seq ?_))
 by_cases hc0 : (FK.chk ⟨dl, ns⟩).1 = 0
 ·
  refine At.region (L.val Z (am (vs := [.int .i64 dl, .slice A' ns.length c']) Z Z Z Z) (av Z) (L.op Z (dC Z Z Z hE (pA dl ns A' c') (nodesOwn.at (.tail (.head)) hN.i64s) ?_)))
  rintro v m hv
  obtain ⟨bv, rfl, rfl⟩ : ∃ bv, v = .tuple #[bv, .nilIface] ∧ m = [bM bv (FK.bL ⟨dl, ns⟩)] := hv.elim (fun h => h.2) fun h => absurd hc0 h.1
  refine ai (L.mv Z Z (L.ex Z Z Z (L.ex Z Z Z (L.as Z Z (L.as Z Z (L.nil (At.then (At.seq (At.region (L.val Z (am (vs := [.int .i64 dl, .slice A' ns.length c']) Z Z Z Z) (av Z) (L.op Z (ah Z Z Z hE (lJ dl A' c' ns) (Ent.sel (.tail (.tail (.head)))) ?_))))))))))))
  rintro v m ⟨rfl, rfl⟩
  refine ay (L.nil (At.then (At.seq (At.region (L.mv Z Z (L.op Z (ah Z Z Z hE nl (Ent.refl _) ?_)))))))
  rintro v m ⟨rfl, rfl⟩
  refine ay (L.mv Z Z (L.ex Z Z Z (L.ex Z Z Z (L.as Z Z (L.as Z Z (L.nil (At.then (At.seq (At.region (L.mv Z Z (L.mv Z Z (L.mv Z Z (L.as Z Z (L.as Z Z (L.as Z Z (L.nil (At.then (At.ret ?_))))))))))))))))))
  exact fW [_] rfl Z Z Z (.inl ⟨hc0, bv, rfl, rfl⟩) (Ent.cons (Ent.drop.trans Ent.drop))
 ·
  refine At.region (L.val Z (am (vs := [.int .i64 dl, .slice A' ns.length c']) Z Z Z Z) (av Z) (L.op Z (dC Z Z Z hE (pA dl ns A' c') (nodesOwn.at (.tail (.head)) hN.i64s) ?_)))
  rintro v m hv
  obtain ⟨b, rfl, rfl⟩ : ∃ b, v = .tuple #[.slice none 0 0, .iface 159 (.pointer (some ⟨b, 0, none⟩))] ∧ m = [blk b 164 #[.int .i64 (FK.chk ⟨dl, ns⟩).1, .int .i64 (FK.chk ⟨dl, ns⟩).2]] := hv.elim (fun h => absurd h.1 hc0) fun h => h.2
  refine ai (L.mv Z Z (L.ex Z Z Z (L.ex Z Z Z (L.as Z Z (L.as Z Z (L.nil (At.then (At.seq (At.region (L.val Z (am (vs := [.int .i64 dl, .slice A' ns.length c']) Z Z Z Z) (av Z) (L.op Z (ah Z Z Z hE (lJ dl A' c' ns) (Ent.sel (.tail (.tail (.head)))) ?_))))))))))))
  rintro v m ⟨rfl, rfl⟩
  refine ay (L.nil (At.then (At.seq (At.region (L.mv Z Z (L.op Z (ah Z Z Z hE (tG b _ _) (Ent.sel .head) ?_)))))))
  rintro v m ⟨rfl, rfl⟩
  refine ai (L.mv Z Z (L.ex Z Z Z (L.ex Z Z Z (L.as Z Z (L.as Z Z (L.nil (At.then (At.seq (At.region (L.mv Z Z (L.mv Z Z (L.mv Z Z (L.as Z Z (L.as Z Z (L.as Z Z (L.nil (At.then (At.ret ?_))))))))))))))))))
  exact fW [] rfl Z Z Z (.inr ⟨hc0, rfl, rfl⟩) (Ent.drop.trans (Ent.drop.trans Ent.drop))
end Go.Proofs.YtmeegfamopaljaaGreatDoor
