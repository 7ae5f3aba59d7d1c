/- The walks of flow's reader: lists of nodes; what is deferred in Read. -/
import Derived.Test.YtmeegfamopaljaaGreatDoorEdJ
import Derived.Laws.MakeOwn
import Derived.MapKept
import Derived.Test.YtmeegfamopaljaaGreatDoorEdH
import Derived.Laws.StructEq
import Derived.Maps.RangeRun
import Derived.LaidEql
namespace Go.Proofs.YtmeegfamopaljaaGreatDoor
open Go Go.RowKit Go.SL
variable {G : Env → Prop}
theorem qt : ∀ (a : List HP) {b : List HP}, Ent (a ++ b) b
 | [], _ => Ent.refl _
 | _ :: a, _ => Ent.drop.trans (qt a)
theorem lP (nd : FK.Node) (v : Value) : Instr.fill (fun i => some (i * 7, 7)) (Array.map (fun x => (Value.agg #[.int .i64 0, .int .i64 0, .int .i64 0, .int .i64 0, .int .i64 0, .int .i64 0, .slice none 0 0]).cells[x % (Value.agg #[.int .i64 0, .int .i64 0, .int .i64 0, .int .i64 0, .int .i64 0, .int .i64 0, .slice none 0 0]).cells.size]!) (Array.range (1 * 7)))
 ((List.map (fun x => x.1) [((0 : Nat), Operand.tmp 15)]).zip [Value.agg (aw nd v).toArray]) = some (aw nd v).toArray := by
 have e1 : Array.range (1 * 7) = #[0, 1, 2, 3, 4, 5, 6] := rfl
 rw [e1]
 simp [Instr.fill, aw, Value.cells]
theorem jJ {vs : List Value} {ns : List FK.Node} {v : Value} {nd : FK.Node} (h : vs.length = ns.length) : bB (vs ++ [v]) (ns ++ [nd]) = bB vs ns ++ [bh v nd.after] := by
 unfold bB
 rw [List.zip_append h]
 simp
theorem ud {v' : Value} {vs : List Value} {ns : List FK.Node} {u : Value} {nd : FK.Node} {fr : List HP} {x y z : HP} (h : vs.length = ns.length) :
 Ent (row 46 7 v' (ns.length + 1) (bl ns vs ++ aw nd u) :: x :: bh u nd.after :: y :: z :: (bB vs ns ++ fr)) (y :: z :: row 46 7 v' (ns ++ [nd]).length (bl (ns ++ [nd]) (vs ++ [u])) :: (bB (vs ++ [u]) (ns ++ [nd]) ++ fr)) := by
 rw [jJ h, ii ns vs nd u h, show (ns ++ [nd]).length = ns.length + 1 by simp]
 refine (Ent.cons Ent.drop).trans (Ent.perm ?_)
 have h1 : (([row 46 7 v' (ns.length + 1) (bl ns vs ++ aw nd u), bh u nd.after] ++ [y, z]) ++ (bB vs ns ++ fr)).Perm (([y, z] ++ [row 46 7 v' (ns.length + 1) (bl ns vs ++ aw nd u), bh u nd.after]) ++ (bB vs ns ++ fr)) := List.perm_append_comm.append_right _
 refine h1.trans (List.Perm.cons _ (List.Perm.cons _ (List.Perm.cons _ ?_)))
 have h2 : (bh u nd.after :: (bB vs ns ++ fr)).Perm (bB vs ns ++ bh u nd.after :: fr) := List.perm_middle.symm
 simpa using h2
theorem sB {v : Value} {vs : List Value} {ns : List FK.Node} {fr : List HP} {y z : HP} (h : vs.length = ns.length) :
 Ent (y :: z :: row 46 7 v ns.length (bl ns vs) :: (bB vs ns ++ fr)) (nodesOwn v ns :: y :: z :: fr) := by
 refine (Ent.perm ?_).trans (nodesOwn.ent h)
 have h1 : (([y, z] ++ (row 46 7 v ns.length (bl ns vs) :: bB vs ns)) ++ fr).Perm (((row 46 7 v ns.length (bl ns vs) :: bB vs ns) ++ [y, z]) ++ fr) := List.perm_append_comm.append_right _
 simpa using h1
set_option maxRecDepth 10000 in
theorem wW {p : HP} {A : Option Addr} {c : Nat} {bs : List UInt8} (hp : Reads p A bs) (hl : bs.length ≤ 1099511627776) (r q : Nat) (hq : q ≤ bs.length) :
 DoesX Tryz.prog G 152 [.pointer (some ⟨r, 0, none⟩), .func (.func 153) #[.pointer (some ⟨r, 0, none⟩)] #[]].toArray [blk r 240 #[.slice A bs.length c, .int .i64 q], p]
  (fun u m => ∃ (ns : List FK.Node) (q' : Nat), FK.dB bs (FK.fw bs) q = .ok (ns, q') ∧ q' ≤ bs.length ∧ (∀ x ∈ ns, Small x) ∧ (∃ A' c', u = .slice A' ns.length c') ∧ m = [nodesOwn u ns, blk r 240 #[.slice A bs.length c, .int .i64 q'], p])
  (fun x m => ∃ e q' : Nat, FK.dB bs (FK.fw bs) q = .error e ∧ x = uU e ∧ m = [blk r 240 #[.slice A bs.length c, .int .i64 q'], p]) := by
 refine DoesX.body Tryz.func152 Z Z fun E fr hE => ?_
 refine aF (At.seq (At.region (L.as Z Z (L.nil (At.then (At.seq (At.region (L.as Z Z (L.nil (At.then (At.seq (At.seq (At.region (L.mv Z Z ?_))))))))))))))
 refine L.op Z (jN Z Z Z hE (eT hp hl r q hq) (Ent.refl _) ?_ ?_)
 ·
  rintro c m ⟨e, q', he, rfl, rfl⟩
  refine aF (ce (ce ?_))
  exact fR _ ⟨e, q', nY he, rfl, rfl⟩ (Ent.refl _)
 rintro v m ⟨n, q1, hn, rfl, rfl⟩
 refine aF ?_
 obtain ⟨hn1, hn2, hn3⟩ := FK.qY hn
 refine L.as Z Z (L.nil (At.then (At.block ?_)))
 refine aT (X := Nat × List FK.Node × List Value × Value × Nat) (fun x => [(6, .int .i64 x.1), (5, x.2.2.2.1), (0, .pointer (some ⟨r, 0, none⟩)), (1, .func (.func 153) #[.pointer (some ⟨r, 0, none⟩)] #[])]) (fun x => blk r 240 #[.slice A bs.length c, .int .i64 x.2.2.2.2] :: p :: row 46 7 x.2.2.2.1 x.2.1.length (bl x.2.1 x.2.2.1) :: (bB x.2.2.1 x.2.1 ++ fr)) (fun x => FK.kF (FK.fw bs) x.1 x.2.1 x.2.2.2.2 = FK.dB bs (FK.fw bs) q ∧ x.2.2.2.2 ≤ bs.length ∧ (∀ y ∈ x.2.1, Small y) ∧ x.2.1.length + x.1 ≤ 2097152 ∧ x.2.2.1.length = x.2.1.length) (fun x => x.1) (n, [], [], .slice none 0 0, q1) ⟨(pk hn).symm, hn3, by simp, by simp; omega, rfl⟩ ⟨rfl, rfl, rfl, rfl, trivial⟩ (Ent.cons (Ent.cons Ent.row0)) ?_
 rintro ⟨k, ns, vs, v5, q2⟩ ⟨hm, hq2, hb, hlen, hvs⟩
 simp only at hm hq2 hb hlen hvs ⊢
 refine At.seq (At.seq (At.region (L.mv Z Z (L.pure Z (dZ Z Z Z) (L.nil (At.then ?_))))))
 refine aC Z (fun c10 => ?_) (fun c10 => ?_)
 ·
  obtain ⟨k, rfl⟩ : ∃ j, k = j + 1 := ⟨k - 1, by omega⟩
  refine At.skip (At.then (At.seq (At.block (At.region (L.mv Z Z (L.mv Z Z ?_))))))
  refine L.op Z (rA Z Z Z Z hE (su (c := c) hp hl r q2 hq2) (Ent.refl _) ?_ ?_)
  ·
   rintro c m ⟨e, q', he, rfl, rfl⟩
   refine aF (da (ce (iB (da (ce ?_)))))
   exact fR [_, _] ⟨e, q', by rw [← hm, rC he], rfl, rfl⟩ (Ent.cons (Ent.cons (Ent.drop.trans (qt _))))
  rintro v m ⟨nd, u6, q3, hy, hq3, hsm, rfl, rfl⟩
  refine cu (aJ .head ?_)
  rintro A6 c6 rfl _ _ _ _ _
  refine L.op Z (dT (m := 1) (z := .agg #[.int .i64 0, .int .i64 0, .int .i64 0, .int .i64 0, .int .i64 0, .int .i64 0, .slice none 0 0]) (size := 7) (ps := [(0, .tmp 15)]) (vs := [.agg (aw nd (.slice A6 nd.after.length c6)).toArray]) (cs := (aw nd (.slice A6 nd.after.length c6)).toArray) Z Z Z Z (by omega) (by omega) Z (lP _ _) fun b16 => ?_)
  refine L.op rfl (cj rfl rfl ny rfl (by omega) rfl rfl (.tail (.tail (.tail (.tail (.head))))) (news := aw nd (.slice A6 nd.after.length c6)) rfl (fun h => by cases h) (f6 (fun j u h => by simpa using h)) (by simp [aw, Value.oneCell']) (by unfold maxLen; omega) (by omega) fun v' hv' => ?_)
  refine L.as Z Z (L.nil (al (At.then (At.region (L.mv Z Z ?_)))))
  refine L.pure Z (eQ (r := (k : Int)) Z Z (by rw [cT (by omega)]; omega)) ?_
  refine L.as Z Z (L.nil ?_)
  exact At.round (k, ns ++ [nd], vs ++ [.slice A6 nd.after.length c6], v', q3) ⟨by rw [← hm, pr hy], hq3, fun z hz => (by rcases List.mem_append.1 hz with h | h; exact hb z h; simp at h; rw [h]; exact hsm), by simp only [List.length_append, List.length_cons, List.length_nil]; omega, by simp [hvs]⟩ (by simp only; omega) ⟨rfl, rfl, rfl, rfl, trivial⟩ (ud hvs)
 ·
  obtain rfl : k = 0 := by omega
  refine aJ (.tail (.tail (.head))) ?_
  rintro A6 c6 rfl _ _ _ _ _
  refine At.exit (au (ar (an (At.then (At.seq (At.region (L.mv Z Z (L.as Z Z (L.nil (At.then (At.ret ?_)))))))))))
  exact lc (.inl Z) (aA [_, _, _] rfl Z ⟨ns, q2, by rw [← hm, pq], hq2, hb, ⟨_, _, rfl⟩, rfl⟩ (sB hvs))
end Go.Proofs.YtmeegfamopaljaaGreatDoor

namespace Go.SL
open Go Go.RowKit
end Go.SL
namespace Go.Proofs.YtmeegfamopaljaaGreatDoor
open Go Go.RowKit Go.SL
variable {G : Env → Prop}
theorem BR {E : Env} {l r : List HP} {w0 : World} {B : Nat} {A : Option Addr} {c : Nat} {xs : List Int} (s : Sel (old E w0) l r) (h0 : E.is w0) (h : IntsAt w0 B A c xs) (hB : B ≤ w0.heap.size) : ∀ w, Holds E w l → uV A (cI xs) w :=
 q8 s h0 fun w hb ad had j u hj => by
  have hk := h.keep (hb.to_same.mono hB)
  simp only [cI, List.getElem?_map, Option.map_eq_some_iff] at hj
  obtain ⟨x, hx, rfl⟩ := hj
  obtain ⟨b, off, hA, _, hc⟩ := hk.cells (by have := (List.getElem?_eq_some_iff.1 hx).1; omega)
  rw [had] at hA
  injection hA with hA
  subst hA
  rw [add_plain]
  exact hc j x hx
theorem NodesAt.i64s {w : World} {B : Nat} {A : Option Addr} {c : Nat} {ns : List FK.Node} (h : NodesAt w B A c ns) : ∀ n ∈ ns, (i64 n.budget ∧ i64 n.close ∧ i64 n.beat ∧ i64 n.base ∧ i64 n.cap ∧ i64 n.jitter) ∧ ∀ x ∈ n.after, i64 x := fun n hn => by
 obtain ⟨i, hi⟩ := List.getElem?_of_mem hn
 obtain ⟨b, off, _, _, hc⟩ := h.cells (by have := (List.getElem?_eq_some_iff.1 hi).1; omega)
 have hnode := hc i n hi
 obtain ⟨_, _, _, hi6⟩ := hnode.c6
 exact ⟨hnode.rng, hi6.rng⟩
theorem xA {v' : Value} {vs : List Value} {ns : List FK.Node} {k : Nat} {u : Value} {nd : FK.Node} {a b x y z : HP} (h : vs.length = k) (hk : ns[k]? = some nd) :
 Ent (row 46 7 v' (k + 1) (bl (ns.take k) vs ++ aw nd u) :: a :: b :: bh u nd.after :: x :: y :: z :: bB vs (ns.take k)) (row 46 7 v' (k + 1) (bl (ns.take (k + 1)) (vs ++ [u])) :: x :: y :: z :: bB (vs ++ [u]) (ns.take (k + 1))) := by
 have hl : vs.length = (ns.take k).length := by have := (List.getElem?_eq_some_iff.1 hk).1; simp; omega
 rw [jT hk, jJ hl, ii _ _ _ _ hl]
 refine Ent.cons (Ent.drop.trans (Ent.drop.trans (Ent.perm ?_)))
 have h1 : ([bh u nd.after] ++ (x :: y :: z :: bB vs (ns.take k))).Perm ((x :: y :: z :: bB vs (ns.take k)) ++ [bh u nd.after]) := List.perm_append_comm
 simpa using h1
theorem uH {v : Value} {vs : List Value} {ns : List FK.Node} {z : HP} (h : vs.length = ns.length) :
 Ent (row 46 7 v ns.length (bl (ns.take ns.length) vs) :: z :: bB vs (ns.take ns.length)) ([nodesOwn v ns] ++ [z]) := by
 rw [List.take_length]
 refine (Ent.perm ?_).trans (nodesOwn.ent (r := [z]) h)
 exact List.Perm.cons _ (List.perm_append_comm (l₁ := [z]) (l₂ := bB vs ns))
set_option maxRecDepth 10000 in
theorem ll (dl : Int) (A : Option Addr) (c : Nat) (ns : List FK.Node) (hfit : lb ns) : Gives Tryz.prog G 45 [.agg #[.int .i64 dl, .slice A ns.length c]].toArray (fun w => NodesAt w w.heap.size A c ns)
 fun v m => ∃ A' c', v = .agg #[.int .i64 dl, .slice A' ns.length c'] ∧ m = [nodesOwn (.slice A' ns.length c') ns] := by
 refine Gives.body Tryz.func45 Z Z fun E w0 hE h0 hN => ?_
 refine At.seq (At.region (L.op Z (cc Z Z fun b1 => (L.op Z (aH (z := .agg #[.int .i64 0, .slice none 0 0]) Z Z fun b2 => (L.nil (At.then (At.seq (At.region (L.as Z Z (L.nil (At.then (At.seq (At.seq (At.region (aE 1 Z Z Z (aX Z Z Z Z (L.pure Z (aP Z Z) (L.mv Z Z (L.nil (At.then ?_)))))))))))))))))))))
 refine At.block ?_
 refine aT (X := Nat × List Value × Value) (fun x => [(9, .int .i64 x.1), (3, x.2.2), (7, .slice A ns.length c), (8, .int .i64 ns.length), (1, .pointer (some ⟨b1, 0, none⟩)), (2, .pointer (some ⟨b2, 0, none⟩))]) (fun x => row 46 7 x.2.2 x.1 (bl (ns.take x.1) x.2.1) :: blk b2 29 #[.int .i64 0, .slice none 0 0] :: blk b1 29 #[.int .i64 dl, .slice A ns.length c] :: old E w0 :: bB x.2.1 (ns.take x.1)) (fun x => x.1 ≤ ns.length ∧ x.2.1.length = x.1) (fun x => ns.length - x.1) (0, [], .slice none 0 0) ⟨by omega, rfl⟩ ⟨rfl, rfl, rfl, rfl, rfl, rfl, trivial⟩ Ent.row0 ?_
 rintro ⟨k, vs, v3⟩ ⟨hk, hvs⟩
 simp only at hk hvs ⊢
 refine At.seq (At.region (L.pure Z (bf Z Z Z) (L.nil (At.then (At.seq ?_)))))
 refine aC Z (fun c10 => ?_) (fun c10 => ?_)
 ·
  have hlt : k < ns.length := by omega
  obtain ⟨b, off, rfl, hbB, hcell⟩ := hN.cells (by omega)
  obtain ⟨nd, db⟩ : ∃ nd, ns[k]? = some nd := ⟨ns[k], by simp [hlt]⟩
  obtain ⟨A6, c6, hrow, hints⟩ := NodeAt.row (hcell k nd db)
  have hf1 := hfit.1
  have hf2 := hfit.2 nd (List.mem_of_getElem? db)
  refine At.skip (At.then (At.seq (At.block (At.seq (At.region ?_)))))
  refine L.pure Z (bD (z := 7) Z Z Z Z (by omega)) ?_
  refine L.val Z (am (vs := cL nd A6 c6) Z Z Z Z) (ym (.tail (.tail (.tail (.head)))) h0 hrow) (L.op Z (aH (z := .agg #[.int .i64 0, .int .i64 0, .int .i64 0, .int .i64 0, .int .i64 0, .int .i64 0, .slice none 0 0]) Z Z fun b5 => ?_))
  refine L.op Z (aG Z (m := 7) (vs := cL nd A6 c6) Z Z Z Z (by simp [cL, Value.oneCell']) (by simp [cL, Value.cells]) ?_)
  simp only [Value.cells, nT]
  refine L.nil (At.then (At.seq (At.region (aE 6 Z Z Z (aX Z Z Z Z (At.ent (Ent.row0 (e := 3) (size := 1)) ?_))))))
  refine L.op rfl (cj (k := 0) (xs := []) rfl rfl fy rfl (by omega) rfl rfl .head (news := cI nd.after) (by simp [cI]) (fun h => by have := hints.cells; subst h; rcases Nat.eq_zero_or_pos nd.after.length with h | h; exact h; obtain ⟨_, _, h, _⟩ := this h; cases h) (BR (.tail (.tail (.tail (.tail (.tail (.head)))))) h0 hints (Nat.le_refl _)) (by simp [cI, Value.oneCell']) (by unfold maxLen; omega) (by omega) fun v15 hv15 => ?_)
  simp only [Nat.zero_add, List.nil_append]
  refine aJ .head ?_
  rintro A7 c7 rfl _ _ _ _ _
  refine aE 6 Z Z Z ?_
  refine L.st Z Z Z Z (by simp [cL]) ?_
  refine L.nil (At.then (At.region (L.mv Z Z (L.val Z (am (vs := aw nd (.slice A7 nd.after.length c7)) Z Z Z Z) (av Z) ?_))))
  refine L.op Z (dT (m := 1) (z := .agg #[.int .i64 0, .int .i64 0, .int .i64 0, .int .i64 0, .int .i64 0, .int .i64 0, .slice none 0 0]) (size := 7) (ps := [(0, .tmp 18)]) (vs := [.agg (aw nd (.slice A7 nd.after.length c7)).toArray]) (cs := (aw nd (.slice A7 nd.after.length c7)).toArray) Z Z Z Z (by omega) (by omega) Z (lP _ _) fun b19 => ?_)
  refine L.op rfl (cj rfl rfl ny rfl (by omega) rfl rfl (.tail (.tail (.tail (.head)))) (news := aw nd (.slice A7 nd.after.length c7)) rfl (fun h => by cases h) (f6 (fun j u h => by simpa using h)) (by simp [aw, Value.oneCell']) (by unfold maxLen; omega) (by omega) fun v4 hv4 => ?_)
  refine L.as Z Z (L.nil (al (At.then (At.region ?_))))
  refine L.pure Z (aO Z Z (cT (by omega))) ?_
  refine L.mv Z Z (L.nil ?_)
  exact At.round (k + 1, vs ++ [.slice A7 nd.after.length c7], v4) ⟨by simp only; omega, by simp [hvs]⟩ (by simp only; omega) ⟨rfl, rfl, rfl, rfl, rfl, rfl, trivial⟩ (xA hvs db)
 ·
  obtain rfl : k = ns.length := by omega
  refine aJ .head ?_
  rintro A7 c7 rfl _ _ _ _ _
  refine At.exit (au (ar (an (At.then (At.seq (At.region (L.mv Z Z (aE 1 Z Z Z ?_))))))))
  refine L.st Z Z Z Z (by first | decide | simp | (simp; omega)) ?_
  refine L.nil (At.then (At.seq (At.region (L.val Z (am (vs := [.int .i64 dl, .slice A7 ns.length c7]) Z Z Z Z) (av Z) ?_))))
  refine L.op Z (aG Z (m := 2) (vs := [.int .i64 dl, .slice A7 ns.length c7]) Z Z Z Z (by simp [Value.oneCell']) (by simp) ?_)
  refine L.nil (At.then (At.ret ?_))
  exact m2 [_] rfl (bU (vs := [.int .i64 dl, .slice A7 ns.length c7]) Z Z Z Z (av Z)) ⟨A7, c7, rfl, rfl⟩ (Ent.drop.trans (Ent.drop.trans (uH hvs)))
end Go.Proofs.YtmeegfamopaljaaGreatDoor

namespace Go.SL
open Go Go.RowKit
section
variable {P : Program} {E : Env} {n : Nat} {D : List Deferred} {ts : List (Nat × Value)} {l : List HP} {ops : Array Oper} {Q : Exit → Act → World → Prop} {i : Nat} {ty : TypeId} {pos : String} {af : Array Edge} {g : Option (Nat × Bool)}
theorem zh (z : Value) (m : Nat) (hz : z.cells = #[z]) : madeCells z.cells (m * 1) = (List.replicate m z).toArray := by
 rw [hz]
 unfold madeCells
 apply Array.ext
 · simp
 · intro j h1 h2
   simp [Nat.mod_one]
theorem pY {t e : TypeId} {x : Operand} {z : Value} {m bytes : Nat} {K : Act → World → Prop} (hi : Nat.blt i n = true) (ht : P.underlying t = some (.slice e)) (hel : fx P e z 1 bytes) (hz : z.cells = #[z]) (hx : ev ts x = some (.int .i64 (m : Int))) (hb : bytes * m ≤ 281474976710656) (hm : m ≤ 9223372036854775807)
 (h : ∀ b, At E n D ((i, .slice (some ⟨b, 0, none⟩) m m) :: ts) (blk b e (List.replicate m z).toArray :: l) K) : At E n D ts l (fun a w => (Oper.mk (some i) (.makeSlice t x x) ty pos af g).wp P a w K Q) := fun a w f hw => by
 obtain ⟨ti, hti, e0, e1, e2⟩ := info_parts hel
 have hb' : (ti.bytes : Int) * (m : Int) ≤ 281474976710656 := by
  rw [e2]
  have : ((bytes * m : Nat) : Int) ≤ 281474976710656 := by omega
  rwa [Int.natCast_mul] at this
 have hr0 := run_make (P := P) w t e ti z ht hti e0 .i64 .i64 m m (by omega) (by omega) hb' (by omega)
 rw [Int.toNat_natCast, e1, zh z m hz] at hr0
 have hr : (execOp a.eval (Oper.mk (some i) (.makeSlice t x x) ty pos af g)).run P w = .ok (.value (.slice (some ⟨w.heap.size, 0, none⟩) m m)) (w.alloc (.cells (List.replicate m z).toArray e)) := by
  simp only [execOp, f.eval hx, Sem.run_bind, hr0, Result.andThen_ok, Sem.run_pure]
 show (Oper.mk (some i) (.makeSlice t x x) ty pos af g).wp P a w K Q
 unfold Oper.wp
 rw [hr]
 exact h _ _ _ (f.put i (Nat.le_of_ble_eq_true hi) _) (hw.alloc _)
end
end Go.SL
namespace Go.Proofs.YtmeegfamopaljaaGreatDoor
open Go Go.RowKit Go.SL
theorem Ent.set : ∀ (l : List HP) (i : Nat) (x : HP), Ent (x :: l) (l.set i x)
 | [], _, _ => Ent.drop
 | _ :: _, 0, _ => Ent.cons Ent.drop
 | _ :: l, i + 1, x => (Ent.perm (List.Perm.swap _ _ _)).trans (Ent.cons (Ent.set l i x))
end Go.Proofs.YtmeegfamopaljaaGreatDoor

namespace Go.SL
open Go Go.RowKit
theorem ff {α β : Type} (f : α → β) : ∀ (l : List α) (j : Nat), (l.eraseIdx j).map f = (l.map f).eraseIdx j
 | [], _ => rfl
 | _ :: _, 0 => rfl
 | _ :: l, j + 1 => by simp [ff f l j]
theorem mA {k : IntKind} {x : Int} : ∀ {es : List MapEntry} {m : List (Int × Value)} {i : Nat}, es.map (fun e => (e.key, e.val)) = m.map (fun p => (Value.int k p.1, p.2)) →
 Instr.findNow (.int k) (.int k x) es i = some ((m.findIdx? (·.1 == x)).map fun j => (i + j, ((m[j]?).map (·.2)).getD undef))
 | [], [], _, _ => rfl
 | [], _ :: _, _, h => by cases h
 | _ :: _, [], _, h => by cases h
 | e :: es, p :: m, i, h => by
  simp only [List.map_cons, List.cons.injEq, Prod.mk.injEq] at h
  obtain ⟨⟨h1, h2⟩, h3⟩ := h
  have ih := mA (k := k) (x := x) (i := i + 1) h3
  simp only [Instr.findNow, h1, Instr.sameNow, if_true, List.findIdx?_cons]
  by_cases hx : p.1 = x
  · subst hx
    simp [h2]
  · have h4 : (x == p.1) = false := by simp; exact fun h => hx h.symm
    have h5 : (p.1 == x) = false := by simp [hx]
    simp only [h4, h5, Bool.false_eq_true, if_false]
    rw [ih]
    cases m.findIdx? (·.1 == x) with
    | none => rfl
    | some j => simp; omega
section
variable {P : Program} {E : Env} {n : Nat} {D : List Deferred} {ts : List (Nat × Value)} {l : List HP} {ops : Array Oper} {Q : Exit → Act → World → Prop} {i : Nat} {ty : TypeId} {pos : String} {af : Array Edge} {g : Option (Nat × Bool)}
theorem si {t : TypeId} {k : IntKind} (ht : P.underlying t = some (.int k)) {es : List MapEntry} {m : List (Int × Value)} (h : es.map (fun e => (e.key, e.val)) = m.map (fun p => (Value.int k p.1, p.2))) (x : Int) (w : World) :
 (Instr.findKey t (.int k x) es).run P w = .ok ((m.findIdx? (·.1 == x)).map fun j => (j, ((m[j]?).map (·.2)).getD undef)) w := by
 have := mA (x := x) (i := 0) h
 simp only [Nat.zero_add] at this
 exact MapKept.run_findKey ht this
end
end Go.SL

namespace Go.SL
open Go Go.RowKit
section
variable {P : Program} {ts : List (Nat × Value)}
def ne (P : Program) (xs ys : Array Value) : List Field → Option Bool
 | [] => some true
 | f :: fs => bif f.name != "_" then
  match P.underlying f.type, xs[f.offset]?, ys[f.offset]? with
  | some (.int _), some (.int k a), some (.int k' b) => bif k == k' then (ne P xs ys fs).map ((a == b) && ·) else none
  | _, _, _ => none
  else none
theorem nV {d : Nat} {w : World} {xs ys : Array Value} : ∀ {fs : List Field} {r : Bool}, ne P xs ys fs = some r → (Op.eqFields (d + 1) xs ys fs).run P w = .ok r w
 | [], r, h => by simp [ne] at h; subst h; simp [Op.eqFields]
 | f :: fs, r, h => by
  simp only [ne] at h
  cases hn : f.name != "_" with
  | false => rw [hn] at h; simp at h
  | true =>
   rw [hn, cond_true] at h
   have hn' : f.name ≠ "_" := by simpa using hn
   split at h
   · rename_i k0 k a k' b hu hx hy
     cases hk : k == k' with
     | false => rw [hk] at h; simp at h
     | true =>
      rw [hk, cond_true, Option.map_eq_some_iff] at h
      obtain ⟨r', hr', e⟩ := h
      have ih := nV (d := d) (w := w) hr'
      have hk' : k = k' := by simpa using hk
      subst hk'
      have hp : ∀ (cs : Array Value) (v : Value), cs[f.offset]? = some v → (part f.type cs f.offset).run P w = .ok v w := fun cs v hv => by
       simp [part, isAgg, run_underlying hu, hv]
      have he : (Op.equalIn (d + 1) f.type (.int k a) (.int k b)).run P w = .ok (a == b) w := run_equalIn_int w d f.type k k0 a b hu
      simp only [Op.eqFields, if_pos hn', Sem.run_bind, hp xs _ hx, hp ys _ hy, he, Result.andThen_ok]
      cases hab : a == b with
      | true => rw [hab] at e; simp at e; subst e; simpa using ih
      | false => rw [hab] at e; simp at e; subst e; simp
   · cases h
end
end Go.SL

namespace Go.SL
open Go Go.RowKit
structure KeyK (P : Program) (kt : TypeId) (K : Type) [BEq K] (enc : K → Value) : Prop where
 check : ∀ (e : Bool) (k : K) (w : World), (Instr.checkKey e 10000 kt (enc k)).run P w = .ok () w
 find : ∀ (w : World) (es : List MapEntry) (m : List (K × Value)) (k : K), es.map (fun e => (e.key, e.val)) = m.map (fun p => (enc p.1, p.2)) →
  (Instr.findKey kt (enc k) es).run P w = .ok ((m.findIdx? (·.1 == k)).map fun j => (j, ((m[j]?).map (·.2)).getD undef)) w
 bits : ∀ k k' : K, (k == k') = true → Instr.sameBits 10000 (enc k) (enc k') = true
 eq : ∀ k k' : K, (k == k') = true → k = k'
section
variable {P : Program} {w : World}
theorem sR (m : List (Nat × Value)) (x : Nat) : ((m.map fun p => ((p.1 : Int), p.2)).findIdx? (·.1 == (x : Int))) = m.findIdx? (·.1 == x) := by
 induction m with
 | nil => rfl
 | cons p m ih =>
  simp only [List.map_cons, List.findIdx?_cons, ih]
  by_cases h : p.1 = x
  · simp [h]
  · have h1 : (p.1 == x) = false := by simp [h]
    have h2 : ((p.1 : Int) == (x : Int)) = false := by simp; omega
    rw [h1, h2]
theorem Cb {kt : TypeId} {k : IntKind} (ht : P.underlying kt = some (.int k)) : KeyK P kt Nat (fun x => .int k (x : Int)) where
 check := fun e x w => MapKept.run_checkKey (k := .int k x) ht (by simp [MapKept.IsKey]) e 9999
 find := fun w es m x h => by
  have h' : es.map (fun e => (e.key, e.val)) = (m.map fun p => ((p.1 : Int), p.2)).map (fun p => (Value.int k p.1, p.2)) := by rw [h]; simp
  rw [si ht h' x w, sR]
  cases m.findIdx? (·.1 == x) with
  | none => rfl
  | some j => simp [Function.comp_def]
 bits := fun a b h => by
  have : a = b := by simpa using h
  subst this
  simp [Instr.sameBits]
 eq := fun a b h => by simpa using h
theorem mz {x : ByteArray} : ∀ {es : List MapEntry} {m : List (ByteArray × Value)} {i : Nat}, es.map (fun e => (e.key, e.val)) = m.map (fun p => (Value.string p.1, p.2)) →
 Instr.findNow .string (.string x) es i = some ((m.findIdx? (·.1 == x)).map fun j => (i + j, ((m[j]?).map (·.2)).getD undef))
 | [], [], _, _ => rfl
 | [], _ :: _, _, h => by cases h
 | _ :: _, [], _, h => by cases h
 | e :: es, p :: m, i, h => by
  simp only [List.map_cons, List.cons.injEq, Prod.mk.injEq] at h
  obtain ⟨⟨h1, h2⟩, h3⟩ := h
  have ih := mz (x := x) (i := i + 1) h3
  simp only [Instr.findNow, h1, Instr.sameNow, List.findIdx?_cons]
  by_cases hx : p.1 = x
  · subst hx
    have e1 : (p.1 == p.1) = true := (MapKept.bytes_beq _ _).2 rfl
    rw [e1]
    simp [h2]
  · have h4 : (x == p.1) = false := by
     cases hb : x == p.1 with
     | false => rfl
     | true => exact absurd ((MapKept.bytes_beq _ _).1 hb).symm hx
    have h5 : (p.1 == x) = false := by
     cases hb : p.1 == x with
     | false => rfl
     | true => exact absurd ((MapKept.bytes_beq _ _).1 hb) hx
    simp only [h4, h5, Bool.false_eq_true, if_false]
    rw [ih]
    cases m.findIdx? (·.1 == x) with
    | none => rfl
    | some j => simp; omega
theorem B9 {kt : TypeId} (ht : P.underlying kt = some .string) : KeyK P kt ByteArray (fun x => .string x) where
 check := fun e x w => MapKept.run_checkKey (k := .string x) ht (by simp [MapKept.IsKey]) e 9999
 find := fun w es m x h => by
  have := mz (x := x) (i := 0) h
  simp only [Nat.zero_add] at this
  exact MapKept.run_findKey ht this
 bits := fun a b h => by simpa [Instr.sameBits] using h
 eq := fun a b h => (MapKept.bytes_beq _ _).1 h
def j0 (P : Program) (cs : Array Value) : List Field → Bool
 | [] => true
 | f :: fs => (match P.underlying f.type, cs[f.offset]? with
  | some (.int _), some (.int _ _) => true
  | _, _ => false) && j0 P cs fs
theorem lp {t : TypeId} {fs : Array Field} {cs : Array Value} (ht : P.underlying t = some (.struct fs)) (h : j0 P cs fs.toList = true) (e : Bool) (n : Nat) (w : World) : (Instr.checkKey e (n + 2) t (.agg cs)).run P w = .ok () w := by
 rw [Instr.checkKey]
 simp only [Sem.run_bind, run_underlying ht, Result.andThen_ok]
 rw [← Array.forIn_toList]
 generalize fs.toList = l at h ⊢
 clear ht
 induction l with
 | nil => simp
 | cons f l ih =>
  simp only [j0, Bool.and_eq_true] at h
  obtain ⟨h1, h2⟩ := h
  have ih' := ih h2
  split at h1
  · rename_i k0 k a hu hx
    have hp : (part f.type cs f.offset).run P w = .ok (.int k a) w := by simp [part, isAgg, run_underlying hu, hx]
    have hc : (Instr.checkKey e (n + 1) f.type (.int k a)).run P w = .ok () w := by
     rw [Instr.checkKey]
     simp [run_underlying hu]
    simp only [List.forIn_cons, Sem.run_bind, Sem.run_ite]
    split
    · simp only [hp, Result.andThen_ok, hc, Sem.run_pure]
      exact ih'
    · simp only [Sem.run_pure, Result.andThen_ok]
      exact ih'
  · cases h1
theorem gw {t : TypeId} {K : Type} [BEq K] {enc : K → Value} (heq : ∀ (w : World) (a b : K), (Op.equal t (enc a) (enc b)).run P w = .ok (a == b) w) {x : K} (hs : ∀ a b : K, (a == b) = (b == a)) : ∀ {es : List MapEntry} {m : List (K × Value)} {i : Nat} {w : World}, es.map (fun e => (e.key, e.val)) = m.map (fun p => (enc p.1, p.2)) →
 (Instr.findAsking t (enc x) es i).run P w = .ok ((m.findIdx? (·.1 == x)).map fun j => (i + j, ((m[j]?).map (·.2)).getD undef)) w
 | [], [], _, _, _ => rfl
 | [], _ :: _, _, _, h => by cases h
 | _ :: _, [], _, _, h => by cases h
 | e :: es, p :: m, i, w, h => by
  simp only [List.map_cons, List.cons.injEq, Prod.mk.injEq] at h
  obtain ⟨⟨h1, h2⟩, h3⟩ := h
  have ih := gw heq (x := x) hs (i := i + 1) (w := w) h3
  simp only [Instr.findAsking, h1, Sem.run_bind, heq, Result.andThen_ok, List.findIdx?_cons, hs x p.1]
  cases hx : p.1 == x with
  | true => simp [h2]
  | false =>
   simp only [Bool.false_eq_true, if_false]
   rw [ih]
   cases m.findIdx? (·.1 == x) with
   | none => rfl
   | some j => simp; omega
theorem Ca {kt : TypeId} {K : Type} [BEq K] {arr : K → Array Value} (ht : P.underlying kt = some (.struct (P.fieldsOf kt))) (hp : P.stoodInHeld kt = false) (hf : ∀ a, j0 P (arr a) (P.fieldsOf kt).toList = true)
 (he : ∀ a b, ne P (arr a) (arr b) (P.fieldsOf kt).toList = some (a == b)) (hs : ∀ a b : K, (a == b) = (b == a)) (hb : ∀ k k' : K, (k == k') = true → k = k') (hbits : ∀ k : K, Instr.sameBits 10000 (.agg (arr k)) (.agg (arr k)) = true) : KeyK P kt K (fun k => .agg (arr k)) where
 check := fun e k w => lp ht (hf k) e 9998 w
 find := fun w es m k h => by
  have heq : ∀ (w : World) (a b : K), (Op.equal kt (.agg (arr a)) (.agg (arr b))).run P w = .ok (a == b) w := fun w a b => by
   show (Op.equalIn 10000 kt (.agg (arr a)) (.agg (arr b))).run P w = _
   rw [run_equalIn_agg w 9999 kt _ _ ht hp, nV (he a b)]
  have := gw (enc := fun k => .agg (arr k)) heq (x := k) hs (i := 0) (w := w) h
  simp only [Nat.zero_add] at this
  unfold Instr.findKey
  rw [Sem.run_bind, run_underlying ht, Result.andThen_ok]
  cases es with
  | nil =>
   cases m with
   | nil => rfl
   | cons _ _ => cases h
  | cons e es =>
   have hn : Instr.findNow (.struct (P.fieldsOf kt)) (.agg (arr k)) (e :: es) 0 = none := by
    simp [Instr.findNow, Instr.sameNow]
   simp only [hn]
   exact this
 bits := fun a b h => by rw [hb a b h]; exact hbits b
 eq := hb
end
def gr {K : Type} (enc : K → Value) (b : Nat) (m : List (K × Value)) (w : World) : Prop :=
 ∃ es clock, w.heap[b]? = some (.map es clock) ∧ es.toList.map (fun e => (e.key, e.val)) = m.map (fun p => (enc p.1, p.2)) ∧ (∀ x ∈ es.toList, x.born < clock) ∧ (es.toList.map (·.born)).Nodup
def bF {K : Type} (enc : K → Value) (b : Nat) (m : List (K × Value)) : HP where
 sat w F := F b ∧ gr enc b m w
 loc hFG hk h := ⟨hFG _ h.1, let ⟨es, c, h1, h2⟩ := h.2; ⟨es, c, (hk _ h.1).trans h1, h2⟩⟩
def cw {K : Type} [BEq K] (m : List (K × Value)) (x : K) : Option Value := (m.find? (·.1 == x)).map (·.2)
theorem ey {K : Type} [BEq K] (m : List (K × Value)) (x : K) : ((m.findIdx? (·.1 == x)).map fun j => ((m[j]?).map (·.2)).getD undef) = cw m x := by
 unfold cw
 induction m with
 | nil => rfl
 | cons p m ih =>
  simp only [List.findIdx?_cons, List.find?_cons]
  cases hx : p.1 == x with
  | true => simp
  | false =>
   rw [← ih]
   cases m.findIdx? (·.1 == x) with
   | none => rfl
   | some j => simp
section
variable {P : Program} {E : Env} {n : Nat} {D : List Deferred} {ts : List (Nat × Value)} {l : List HP} {ops : Array Oper} {Q : Exit → Act → World → Prop} {i : Nat} {ty : TypeId} {pos : String} {af : Array Edge} {g : Option (Nat × Bool)} {K : Type} {enc : K → Value}
theorem fv {b : Nat} {m : List (K × Value)} {r : List HP} (s : Sel (bF enc b m) l r) : ∀ w, Holds E w l → gr enc b m w := fun w hw => by
 obtain ⟨F1, _, _, _, _, hp, _⟩ := (hw.sel s).star
 exact hp.2
theorem Holds.setVMap {b : Nat} {m m' : List (K × Value)} {r : List HP} {w : World} {es : Array MapEntry} {c : Nat} (hw : Holds E w (bF enc b m :: r)) (hes : es.toList.map (fun e => (e.key, e.val)) = m'.map fun p => (enc p.1, p.2)) (h1 : ∀ x ∈ es.toList, x.born < c) (h2 : (es.toList.map (·.born)).Nodup) :
 Holds E { w with heap := w.heap.setIfInBounds b (.map es c) } (bF enc b m' :: r) := by
 refine hw.turn Z Z Z (by simp) fun F1 hp hF => ⟨F1, fun k hk => ⟨.inl hk, by simpa using (hF k hk).1⟩, ⟨hp.1, es, c, ?_, hes, h1, h2⟩, fun k _ hk => ?_⟩
 · have := (hF b hp.1).1
   simp [this]
 · have : k ≠ b := fun h => by subst h; exact hk hp.1
   simp [Array.getElem?_setIfInBounds_ne (Ne.symm this)]
end
section
variable {P : Program} {E : Env} {n : Nat} {D : List Deferred} {ts : List (Nat × Value)} {l : List HP} {ops : Array Oper} {Q : Exit → Act → World → Prop} {i : Nat} {ty : TypeId} {pos : String} {af : Array Edge} {g : Option (Nat × Bool)} {K : Type} [BEq K] {enc : K → Value}
theorem rL {t kt et : TypeId} {x y : Operand} {b : Nat} {m : List (K × Value)} {a : K} {z : Value} (ht : P.underlying t = some (.map kt et)) (hk : KeyK P kt K enc) (hz : fq P et z) (hx : ev ts x = some (.map (some b))) (hy : ev ts y = some (enc a)) :
 Ev P ts (.lookup t x y true) (.tuple #[(cw m a).getD z, .bool (cw m a).isSome]) (gr enc b m) := by
 intro ac w _ _ _ _ _ kn ⟨es, c, hb, hm, _⟩
 have h1 := hk.find w es.toList m a hm
 have h2 := ey m a
 have hg := MapKept.run_getObj_map (P := P) hb
 simp only [execOp, kn.eval hx, kn.eval hy, Instr.lookup, Sem.run_bind, run_underlying ht, Result.andThen_ok, hg, hk.check, h1, Sem.run_pure]
 cases hf : m.findIdx? (·.1 == a) with
 | none =>
  rw [hf] at h2
  simp only [Option.map_none] at h2
  simp [← h2, e9 hz]
 | some j =>
  rw [hf] at h2
  simp only [Option.map_some] at h2
  simp [← h2]
theorem iR {t kt et : TypeId} {x y : Operand} {b : Nat} {m : List (K × Value)} {a : K} {v : Value} (ht : P.underlying t = some (.map kt et)) (hk : KeyK P kt K enc) (hx : ev ts x = some (.map (some b))) (hy : ev ts y = some (enc a)) (hv : cw m a = some v) :
 Ev P ts (.lookup t x y true) (.tuple #[v, .bool true]) (gr enc b m) := by
 intro ac w _ _ _ _ _ kn ⟨es, c, hb, hm, _⟩
 have h1 := hk.find w es.toList m a hm
 have h2 := ey m a
 rw [hv] at h2
 have hg := MapKept.run_getObj_map (P := P) hb
 simp only [execOp, kn.eval hx, kn.eval hy, Instr.lookup, Sem.run_bind, run_underlying ht, Result.andThen_ok, hg, hk.check, h1, Sem.run_pure]
 cases hf : m.findIdx? (·.1 == a) with
 | none => rw [hf] at h2; simp at h2
 | some j =>
  rw [hf] at h2
  simp only [Option.map_some, Option.some.injEq] at h2
  simp [h2]
theorem j7 {t kt et : TypeId} {x y : Operand} {b : Nat} {m : List (K × Value)} {a : K} {z : Value} (ht : P.underlying t = some (.map kt et)) (hk : KeyK P kt K enc) (hz : fq P et z) (hx : ev ts x = some (.map (some b))) (hy : ev ts y = some (enc a)) (hv : cw m a = none) :
 Ev P ts (.lookup t x y true) (.tuple #[z, .bool false]) (gr enc b m) := by
 have := rL (m := m) ht hk hz hx hy
 rw [hv] at this
 exact this
theorem eB {t kt et : TypeId} {x y : Operand} {b : Nat} {m : List (K × Value)} {a : K} {v : Value} (ht : P.underlying t = some (.map kt et)) (hk : KeyK P kt K enc) (hx : ev ts x = some (.map (some b))) (hy : ev ts y = some (enc a)) (hv : cw m a = some v) :
 Ev P ts (.lookup t x y false) v (gr enc b m) := by
 intro ac w _ _ _ _ _ kn ⟨es, c, hb, hm, _⟩
 have h1 := hk.find w es.toList m a hm
 have h2 := ey m a
 rw [hv] at h2
 have hg := MapKept.run_getObj_map (P := P) hb
 simp only [execOp, kn.eval hx, kn.eval hy, Instr.lookup, Sem.run_bind, run_underlying ht, Result.andThen_ok, hg, hk.check, h1, Sem.run_pure]
 cases hf : m.findIdx? (·.1 == a) with
 | none => rw [hf] at h2; simp at h2
 | some j =>
  rw [hf] at h2
  simp only [Option.map_some, Option.some.injEq] at h2
  simp [h2]
theorem pW {t kt et : TypeId} {x y z : Operand} {b : Nat} {m : List (K × Value)} {a : K} {v : Value} {r : List HP} {d : Option Tmp} {Kk : Act → World → Prop} (hd : d = none) (ht : P.underlying t = some (.map kt et)) (hk : KeyK P kt K enc) (hx : ev ts x = some (.map (some b))) (hy : ev ts y = some (enc a)) (hz : ev ts z = some v)
 (s : Sel (bF enc b m) l r) (hn : cw m a = none) (h : At E n D ts (bF enc b (m ++ [(a, v)]) :: r) Kk) : At E n D ts l (fun ac w => (Oper.mk d (.mapUpdate t x y z) ty pos af g).wp P ac w Kk Q) := fun ac w f hw => by
 subst hd
 have hw' := hw.sel s
 obtain ⟨es, c, hb, hm, hs1, hs2⟩ := fv .head w hw'
 have h1 := hk.find w es.toList m a hm
 have h2 := ey m a
 have hg := MapKept.run_getObj_map (P := P) hb
 have hf : m.findIdx? (·.1 == a) = none := by
  cases hf : m.findIdx? (·.1 == a) with
  | none => rfl
  | some j => rw [hf, hn] at h2; simp at h2
 rw [hf] at h1
 have hs := MapKept.run_setObj_map (P := P) (.map (es.push { key := enc a, val := v, born := c }) (c + 1)) hb
 have hr : (execOp ac.eval (Oper.mk none (.mapUpdate t x y z) ty pos af g)).run P w = .ok .skip { w with heap := w.heap.setIfInBounds b (.map (es.push { key := enc a, val := v, born := c }) (c + 1)) } := by
  simp only [execOp, f.eval hx, f.eval hy, f.eval hz, Instr.mapUpdate, Sem.run_bind, run_underlying ht, Result.andThen_ok, hg, hk.check, h1, Option.map_none, hs, Sem.run_pure]
 show (Oper.mk none (.mapUpdate t x y z) ty pos af g).wp P ac w Kk Q
 unfold Oper.wp
 rw [hr]
 refine h ac _ f (hw'.setVMap (by simp [hm]) (fun y hy => ?_) ?_)
 · rw [Array.toList_push, List.mem_append] at hy
   rcases hy with hy | hy
   · exact Nat.lt_succ_of_lt (hs1 y hy)
   · simp at hy; subst hy; exact Nat.lt_succ_self _
 · rw [Array.toList_push, List.map_append, List.nodup_append]
   refine ⟨hs2, by simp, fun y hy z hz => ?_⟩
   obtain ⟨e, he, rfl⟩ := List.mem_map.1 hy
   simp at hz
   subst hz
   exact Nat.ne_of_lt (hs1 e he)
theorem pX {t kt et : TypeId} {x y : Operand} {b : Nat} {m : List (K × Value)} {a : K} {r : List HP} {d : Option Tmp} {Kk : Act → World → Prop} (hd : d = none) (ht : P.underlying t = some (.map kt et)) (hk : KeyK P kt K enc) (hx : ev ts x = some (.map (some b))) (hy : ev ts y = some (enc a))
 (s : Sel (bF enc b m) l r) (h : At E n D ts (bF enc b (m.eraseP (·.1 == a)) :: r) Kk) : At E n D ts l (fun ac w => (Oper.mk d (.call { callee := .builtin .delete, args := #[x, y], argTypes := #[t, kt] }) ty pos af g).wp P ac w Kk Q) := fun ac w f hw => by
 subst hd
 have hw' := hw.sel s
 obtain ⟨es, c, hb, hm, hs1, hs2⟩ := fv .head w hw'
 have h1 := hk.find w es.toList m a hm
 have hg := MapKept.run_getObj_map (P := P) hb
 obtain ⟨es', hes', hs1', hs2', hrun⟩ : ∃ es' : Array MapEntry, es'.toList.map (fun e => (e.key, e.val)) = (m.eraseP (·.1 == a)).map (fun p => (enc p.1, p.2)) ∧ (∀ x ∈ es'.toList, x.born < c) ∧ (es'.toList.map (·.born)).Nodup ∧ (Builtin.delete_ #[t, kt] ty #[.map (some b), enc a]).run P w = .ok (.tuple #[]) { w with heap := w.heap.setIfInBounds b (.map es' c) } := by
  cases hf : m.findIdx? (·.1 == a) with
  | none =>
   rw [hf] at h1
   have hs := MapKept.run_setObj_map (P := P) (.map es c) hb
   refine ⟨es, ?_, hs1, hs2, ?_⟩
   · rw [hm, List.eraseP_of_forall_not]
     intro p hp
     have := List.findIdx?_eq_none_iff.1 hf p hp
     simpa using this
   · simp only [Builtin.delete_, List.getElem?_toArray, List.getElem?_cons_zero, List.getElem?_cons_succ, Sem.run_bind, run_underlying ht, Result.andThen_ok, hg, hk.check, h1, Option.map_none, hs, Sem.run_pure]
  | some j =>
   rw [hf] at h1
   have hs := MapKept.run_setObj_map (P := P) (.map (es.eraseIdxIfInBounds j) c) hb
   have he : (es.eraseIdxIfInBounds j).toList = es.toList.eraseIdx j := by
    unfold Array.eraseIdxIfInBounds
    split
    · simp
    · rename_i hlt
      rw [List.eraseIdx_of_length_le (by simpa using hlt)]
   refine ⟨es.eraseIdxIfInBounds j, ?_, ?_, ?_, ?_⟩
   · rw [he, ff, hm, ← ff, List.eraseP_eq_eraseIdx, hf]
   · intro x hx
     rw [he] at hx
     exact hs1 x ((List.eraseIdx_sublist _ _).subset hx)
   · rw [he]
     exact hs2.sublist ((List.eraseIdx_sublist _ _).map _)
   · simp only [Builtin.delete_, List.getElem?_toArray, List.getElem?_cons_zero, List.getElem?_cons_succ, Sem.run_bind, run_underlying ht, Result.andThen_ok, hg, hk.check, h1, Option.map_some, hs, Sem.run_pure]
 have hr : (execOp ac.eval (Oper.mk none (.call { callee := .builtin .delete, args := #[x, y], argTypes := #[t, kt] }) ty pos af g)).run P w = .ok (.value (.tuple #[])) { w with heap := w.heap.setIfInBounds b (.map es' c) } := by
  simp [execOp, resolve, invoke, builtin, f.eval hx, f.eval hy, hrun]
 show (Oper.mk none (.call { callee := .builtin .delete, args := #[x, y], argTypes := #[t, kt] }) ty pos af g).wp P ac w Kk Q
 unfold Oper.wp
 rw [hr]
 exact h ac _ f (hw'.setVMap hes' hs1' hs2')
end
section
variable {P : Program} {E : Env} {n : Nat} {D : List Deferred} {ts : List (Nat × Value)} {l : List HP} {ops : Array Oper} {Q : Exit → Act → World → Prop} {i : Nat} {ty : TypeId} {pos : String} {af : Array Edge} {g : Option (Nat × Bool)} {K : Type} {enc : K → Value}
theorem vD {t kt et : TypeId} {x : Operand} {b : Nat} {m : List (K × Value)} (ht : P.underlying t = some (.map kt et)) (hx : ev ts x = some (.map (some b))) : Ev P ts (.call { callee := .builtin .len, args := #[x], argTypes := #[t] }) (.int .i64 m.length) (gr enc b m) := by
 intro a w _ _ _ _ _ kn ⟨es, c, hb, hm, _⟩
 have hg := MapKept.run_getObj_map (P := P) hb
 have hl : es.size = m.length := by
  have := congrArg List.length hm
  simpa using this
 simp [execOp, resolve, invoke, builtin, Builtin.len_, kn.eval hx, run_underlying ht, goInt, hg, hl]
variable (enc) in
theorem fT {t : TypeId} {Kk : Act → World → Prop} (hi : Nat.blt i n = true) (h : ∀ b, At E n D ((i, .map (some b)) :: ts) (bF enc b [] :: l) Kk) : At E n D ts l (fun ac w => (Oper.mk (some i) (.makeMap t none) ty pos af g).wp P ac w Kk Q) := fun ac w f hw => by
 have hr : (execOp ac.eval (Oper.mk (some i) (.makeMap t none) ty pos af g)).run P w = .ok (.value (.map (some w.heap.size))) (w.alloc (.map #[] 0)) := rfl
 show (Oper.mk (some i) (.makeMap t none) ty pos af g).wp P ac w Kk Q
 unfold Oper.wp
 rw [hr]
 have h0 := hw.alloc (.map #[] 0)
 refine h _ _ _ (f.put i (Nat.le_of_ble_eq_true hi) _) (h0.ent ?_)
 exact fun w F ⟨F1, F2, h1, h2, hd, hp, hl⟩ => ⟨F1, F2, h1, h2, hd, ⟨hp.1, #[], 0, hp.2, rfl, by simp, by simp⟩, hl⟩
end
end Go.SL

namespace Go.SL
open Go Go.RowKit
section
variable {P : Program} {ts : List (Nat × Value)}
def uW (b : Nat) (w : World) : Prop := ∃ cs t, w.heap[b]? = some (.cells cs t (0, 0))
theorem AV {t t' e : TypeId} {x y : Operand} {b c m : Nat} {r : Bool} (ht : P.underlying t = some (.pointer e)) (hz : bZ P e (m + 1)) (hx : ev ts x = some (.pointer (some ⟨b, 0, none⟩))) (hy : ev ts y = some (.pointer (some ⟨c, 0, none⟩))) (hr : decide (b = c) = r) : Ev P ts (.binOp .eql t x y t') (.bool r) (fun w => uW b w ∧ uW c w) := by
 intro ac w _ _ _ _ _ kn ⟨⟨cs, u, hb⟩, cs', u', hc⟩
 subst hr
 refine dp (kn.eval hx) (kn.eval hy) (by simp [eqGuard]) (jR Z fun d => ?_)
 by_cases h : b = c
 · subst h
   simp [Op.equalIn, run_underlying ht, bP hz, run_sameAddr_same]
 · have := run_sameAddr_other (P := P) w (a := ⟨b, 0, none⟩) (b := ⟨c, 0, none⟩) (by simp) hb hc
   simp [Op.equalIn, run_underlying ht, bP hz, this, h]
end
end Go.SL
namespace Go.Proofs.YtmeegfamopaljaaGreatDoor
open Go Go.RowKit Go.SL
variable {G : Env → Prop}
abbrev aL (b : Nat) : Value := .pointer (some ⟨b, 0, none⟩)
abbrev cA (v : Value) (bs : List Nat) : HP := row 338 1 v bs.length (bs.map aL)
theorem AP : (Tryz.prog.info? 338).map (fun i => (i.zero, i.size, i.bytes)) = some (some (.pointer none), 1, 8) := by kernel_rfl
structure Below' (p : HP) (bs : List Nat) (sq : Nat → Nat) (n : Nat) : Prop where
 lt : ∀ b ∈ bs, sq b < n
 cell : ∀ w F, p.sat w F → ∀ b ∈ bs, w.cell? ⟨b, 4, none⟩ = some (.int .u64 (sq b))
theorem Below'.at {E : Env} {p : HP} {bs : List Nat} {sq : Nat → Nat} {n : Nat} {l r : List HP} {b : Nat} (h : Below' p bs sq n) (s : Sel p l r) (hb : b ∈ bs) : ∀ w, Holds E w l → bI ⟨b, 4, none⟩ (.int .u64 (sq b)) w := fun w hw => by
 obtain ⟨F1, _, _, _, _, hp, _⟩ := (hw.sel s).star
 exact h.cell w F1 hp b hb
theorem Ap {a n : Nat} (h : a < n) (hn : n < 9223372036854775808) : IntKind.i64.wrap (IntKind.u64.wrap ((a : Int) - (n : Int))) = (a : Int) - n := by
 rw [lE]
 have : ((a : Int) - n) % 18446744073709551616 = (a : Int) - n + 18446744073709551616 := by omega
 rw [this, IntKind.wrap_i64]
 omega
set_option maxRecDepth 10000 in
theorem put1 {p : HP} {bs : List Nat} {sq : Nat → Nat} {n : Nat} (hp : Below' p bs sq n) (hn : n < 9223372036854775808) (b : Nat) (hb : b ∈ bs) : Does Tryz.prog G 229 [aL b, .int .u64 n].toArray [p] fun v m => v = .int .i64 ((sq b : Int) - n) ∧ m = [p] := by
 have hlt := hp.lt b hb
 refine Does.body Tryz.func229 Z Z fun E fr hE => ?_
 refine ai (At.seq (At.region (L.as Z Z (L.nil (At.then (At.seq (At.region (L.mv Z Z (aN Z Z (aE 4 Z Z Z (L.val Z (aa Z Z) (hp.at .head hb) (L.mv Z Z (L.pure Z (eQ Z Z Z) (L.pure Z (bq Z Z Z (Ap hlt hn)) (L.as Z Z (L.nil (At.then (At.ret ?_))))))))))))))))))
 exact aA [_] rfl Z ⟨rfl, rfl⟩ (Ent.refl _)
theorem half (i n : Nat) (h : i < n) (hn : n ≤ 100000) : ((IntKind.u64.wrap ((i + n : Nat) : Int))).fdiv (2 ^ min ((1 : Int)).toNat IntKind.u64.bits) = (((i + n) / 2 : Nat) : Int) := by
 rw [lE]
 have h1 : ((i + n : Nat) : Int) % 18446744073709551616 = ((i + n : Nat) : Int) := by omega
 have h2 : (2 : Int) ^ min ((1 : Int)).toNat IntKind.u64.bits = 2 := rfl
 rw [h1, h2, Int.fdiv_eq_ediv_of_nonneg _ (by omega)]
 omega
set_option maxRecDepth 10000 in
theorem tT {p : HP} {bs : List Nat} {sq : Nat → Nat} {n : Nat} {A : Option Addr} {c : Nat} (hp : Below' p bs sq n) (hn : n < 9223372036854775808) (hl : bs.length ≤ 100000) :
 Does Tryz.prog G 228 [.slice A bs.length c, .int .u64 n, .func (.func 229) #[] #[]].toArray [cA (.slice A bs.length c) bs, p]
  fun v m => v = .tuple #[.int .i64 bs.length, .bool false] ∧ m = [cA (.slice A bs.length c) bs, p] := by
 refine Does.body Tryz.func228 Z Z fun E fr hE => ?_
 refine aF (aJ .head ?_)
 intro A' c' hA hnil hform hc1 hc2 _
 injection hA with hA _ hcc
 subst hA; subst hcc
 have hc3 : c ≤ 9223372036854775807 := by unfold maxLen at hc2; omega
 refine At.seq (At.region (L.as Z Z (L.as Z Z (L.nil (At.then (At.seq (At.region (L.mv Z Z (L.pure Z (aP Z Z) (L.as Z Z (L.nil (At.then (At.seq (At.region (L.mv Z Z (L.as Z Z (L.as Z Z (L.nil (At.then ?_)))))))))))))))))))
 refine At.seq (At.block ?_)
 refine aT (X := Nat) (fun i => [(9, .int .i64 i), (10, .int .i64 bs.length), (8, .int .i64 bs.length), (0, .slice A bs.length c), (1, .int .u64 n), (2, .func (.func 229) #[] #[])]) (fun _ => cA (.slice A bs.length c) bs :: p :: fr) (fun i => i ≤ bs.length) (fun i => bs.length - i) 0 (by omega) ⟨rfl, rfl, rfl, rfl, rfl, rfl, trivial⟩ (Ent.refl _) ?_
 intro i hi
 refine At.seq (At.seq (At.region (L.mv Z Z (L.mv Z Z (L.pure Z (bf Z Z Z) (L.nil (At.then ?_)))))))
 refine aC Z (fun c17 => ?_) (fun c17 => ?_)
 ·
  have hlt : i < bs.length := by omega
  obtain ⟨g, rfl⟩ : ∃ g, A = some ⟨g, 0, none⟩ := by
   cases A with
   | none => have := (hnil rfl).1; omega
   | some ad => obtain ⟨g, rfl⟩ := hform ad rfl; exact ⟨g, rfl⟩
  obtain ⟨h, hh⟩ : ∃ h, h = (i + bs.length) / 2 := ⟨_, rfl⟩
  have hhl : h < bs.length := by omega
  obtain ⟨b, hb⟩ : ∃ b, bs[h]? = some b := ⟨bs[h], by simp [hhl]⟩
  have hbm := List.mem_of_getElem? hb
  have hblt := hp.lt b hbm
  refine At.skip (At.then (At.block (At.seq (At.region (L.mv Z Z (L.mv Z Z ?_))))))
  refine L.pure Z (aO (r := ((i + bs.length : Nat) : Int)) Z Z (by rw [cT (by omega)]; omega)) ?_
  refine L.pure Z (bq Z Z Z Z) ?_
  refine L.pure Z (ed (r := (h : Int)) Z Z (by omega) (by rw [hh]; exact half i bs.length hlt hl)) ?_
  refine L.pure Z (bq Z Z Z (cT (by omega))) ?_
  refine L.as Z Z (L.nil (At.then (At.seq (At.region (L.mv Z Z (L.mv Z Z (L.mv Z Z (L.pure Z (bD (z := 1) Z Z Z Z hhl) ?_))))))))
  refine L.val Z (aa (v := aL b) Z Z) (iw .head (by simp [hb])) ?_
  refine L.mv Z Z (L.op Z (jO Z Z Z Z hE (put1 hp hn b hbm) (Ent.sel (.tail (.head))) ?_))
  rintro v m ⟨rfl, rfl⟩
  refine ai ?_
  refine L.pure Z (bf (r := true) Z Z (by rw [decide_eq_true_eq]; omega)) ?_
  refine L.nil (At.then (aR Z (At.region (L.mv Z Z ?_))))
  refine L.pure Z (aO Z Z (cT (by omega))) ?_
  refine L.as Z Z (L.nil (al ?_))
  exact At.round (h + 1) (by omega) (by omega) ⟨rfl, rfl, rfl, rfl, rfl, rfl, trivial⟩ (Ent.perm (List.Perm.swap _ _ _))
 ·
  obtain rfl : i = bs.length := by omega
  refine At.exit (au (ar (an (At.then (At.seq (At.region (L.mv Z Z (L.mv Z Z (L.mv Z Z ?_)))))))))
  refine L.pure Z (bf (r := false) Z Z (by simp)) ?_
  refine L.mv Z Z (L.off Z Z Z Z Z Z (L.off Z Z Z Z Z Z (L.off Z Z Z Z Z Z (L.off Z Z Z Z Z Z (L.off Z Z Z Z Z Z (L.off Z Z Z Z Z Z (L.off Z Z Z Z Z Z (L.off Z Z Z Z Z Z (L.pure Z (aM Z Z Z) (L.as Z Z (L.as Z Z (L.nil (At.then (At.ret ?_))))))))))))))
  exact dd [_, _] rfl Z Z ⟨rfl, rfl⟩ (Ent.refl _)
set_option maxRecDepth 10000 in
theorem ul {bs : List Nat} {A : Option Addr} {c g t : Nat} (hl : bs.length ≤ 100000) :
 Does Tryz.prog G 230 [.slice A bs.length c, .int .i64 bs.length, .slice (some ⟨g, 0, none⟩) 1 1].toArray [cA (.slice A bs.length c) bs, blk g 338 #[aL t]]
  fun v m => (∃ A' c', v = .slice A' (bs ++ [t]).length c') ∧ m = [cA v (bs ++ [t])] := by
 refine Does.body Tryz.func230 Z Z fun E fr hE => ?_
 refine aF (aJ .head ?_)
 intro A' c' hA hnil hform hc1 hc2 _
 injection hA with hA _ hcc
 subst hA; subst hcc
 refine At.seq (At.region (L.as Z Z (L.nil (At.then (At.seq (At.region (L.mv Z Z (L.mv Z Z ?_))))))))
 refine L.pure Z (cM (z := 1) (a := bs.length) (b := bs.length) Z Z Z ⟨_, rfl⟩ rfl (Nat.le_refl _) hc1) ?_
 refine L.nil (At.then (At.seq (At.region (L.mv Z Z (L.pure Z (aP Z Z) (L.as Z Z (L.nil (At.then (At.seq (At.seq (At.region (L.mv Z Z (L.pure Z (aV (r := false) Z Z Z) (L.nil (At.then (aj Z (At.skip (At.then (At.seq ?_)))))))))))))))))))
 refine At.region (L.mv Z Z (L.pure Z (aP Z Z) (L.as Z Z (L.nil (At.then (At.seq (At.seq (At.region (L.mv Z Z (L.mv Z Z ?_))))))))))
 refine L.pure Z (aV (r := true) Z Z (by simp)) ?_
 refine L.nil (At.then (aR Z (At.seq (At.region (L.mv Z Z (L.mv Z Z ?_))))))
 refine L.op rfl (cj rfl rfl AP rfl (by omega) rfl rfl .head (news := [aL t]) rfl (fun h => by cases h) (f6 (fun j u h => by simpa using h)) (by simp [Value.oneCell']) (by unfold maxLen; omega) (by omega) fun v' hv' => ?_)
 refine aJ .head ?_
 rintro A7 c7 rfl _ _ _ _ _
 refine L.as Z Z (L.nil (At.then (At.ret (aI ?_))))
 exact aA [_] rfl Z ⟨⟨A7, c7, by simp⟩, rfl⟩ (by simp only [cA, List.length_append, List.map_append, List.length_cons, List.length_nil, List.map_cons, List.map_nil]; exact Ent.cons Ent.drop)
def Blks (p : HP) (bs : List Nat) : Prop := ∀ w F, p.sat w F → ∀ b ∈ bs, uW b w
theorem Blks.at {E : Env} {p : HP} {bs : List Nat} {l r : List HP} {b : Nat} (h : Blks p bs) (s : Sel p l r) (hb : b ∈ bs) : ∀ w, Holds E w l → uW b w := fun w hw => by
 obtain ⟨F1, _, _, _, _, hp, _⟩ := (hw.sel s).star
 exact h w F1 hp b hb
set_option maxRecDepth 10000 in
theorem drop1 {p : HP} {bs : List Nat} (hp : Blks p bs) (o t cl : Nat) (ho : o ∈ bs) (ht : t ∈ bs) : Does Tryz.prog G 226 [aL o, aL cl].toArray [blk cl 338 #[aL t], p] fun v m => v = .bool (decide (o = t)) ∧ m = [blk cl 338 #[aL t], p] := by
 refine Does.body Tryz.func226 Z Z fun E fr hE => ?_
 refine aF (At.seq (At.region (L.as Z Z (L.nil (At.then (At.seq (At.region (L.mv Z Z (aX Z Z Z Z ?_)))))))))
 refine L.val Z (AV (m := 6) Z Z Z Z Z) (fun w hw => ⟨hp.at (.tail (.head)) ho w hw, hp.at (.tail (.head)) ht w hw⟩) ?_
 refine L.as Z Z (L.nil (At.then (At.ret ?_)))
 exact aA [_, _] rfl Z ⟨rfl, rfl⟩ (Ent.refl _)
set_option maxRecDepth 10000 in
theorem zu {p : HP} {bs : List Nat} (hp : Blks p bs) {A : Option Addr} {c i t cl : Nat} (hi : bs[i]? = some t) (hne : ∀ j, j < i → bs[j]? ≠ some t) (hl : bs.length ≤ 100000) :
 Does Tryz.prog G 251 [.slice A bs.length c, .func (.func 226) #[] #[aL cl]].toArray [cA (.slice A bs.length c) bs, blk cl 338 #[aL t], p]
  fun v m => v = .int .i64 i ∧ m = [cA (.slice A bs.length c) bs, blk cl 338 #[aL t], p] := by
 have hil := (List.getElem?_eq_some_iff.1 hi).1
 refine Does.body Tryz.func251 Z Z fun E fr hE => ?_
 refine cu (aJ .head ?_)
 intro A' c' hA hnil hform hc1 hc2 _
 injection hA with hA _ hcc
 subst hA; subst hcc
 obtain ⟨g, rfl⟩ : ∃ g, A = some ⟨g, 0, none⟩ := by
  cases A with
  | none => have := (hnil rfl).1; omega
  | some ad => obtain ⟨g, rfl⟩ := hform ad rfl; exact ⟨g, rfl⟩
 refine At.seq (At.region (L.as Z Z (L.nil (At.then (At.seq (At.seq (At.region (L.mv Z Z (L.pure Z (aP Z Z) (L.mv Z Z (L.nil (At.then (At.block ?_)))))))))))))
 refine aT (X := Nat) (fun k => [(8, .int .i64 k), (7, .int .i64 bs.length), (0, .slice (some ⟨g, 0, none⟩) bs.length c), (1, .func (.func 226) #[] #[aL cl])]) (fun _ => cA (.slice (some ⟨g, 0, none⟩) bs.length c) bs :: blk cl 338 #[aL t] :: p :: fr) (fun k => k ≤ i) (fun k => i - k) 0 (by omega) ⟨rfl, rfl, rfl, rfl, trivial⟩ (Ent.refl _) ?_
 intro k hk
 refine At.seq (At.region (L.pure Z (bf Z Z Z) (L.nil (At.then (At.seq ?_)))))
 refine aC Z (fun c9 => ?_) (fun c9 => ?_)
 ·
  have hlt : k < bs.length := by omega
  obtain ⟨o, ho⟩ : ∃ o, bs[k]? = some o := ⟨bs[k], by simp [hlt]⟩
  have hom := List.mem_of_getElem? ho
  have htm := List.mem_of_getElem? hi
  refine At.skip (At.then (At.seq (At.block (At.seq (At.region (L.mv Z Z (L.as Z Z (L.nil (At.then (At.seq (At.region (L.mv Z Z (L.mv Z Z (L.mv Z Z (L.pure Z (bD (z := 1) Z Z Z Z hlt) ?_)))))))))))))))
  refine L.val Z (aa (v := aL o) Z Z) (iw .head (by simp [ho])) ?_
  refine L.op Z (jO Z Z Z Z hE (drop1 hp o t cl hom htm) (aK (.tail (.head)) (.tail (.head))) ?_)
  rintro v m ⟨rfl, rfl⟩
  refine aF (L.nil (At.then ?_))
  refine aC Z (fun c16 => ?_) (fun c16 => ?_)
  ·
   have hki : k = i := Nat.le_antisymm hk (Nat.le_of_not_lt fun h => hne k h (by rw [ho, c16]))
   subst hki
   refine At.seq (At.region (L.mv Z Z (L.as Z Z (L.nil (At.then (At.ret (aB (aI (bT (aB (aI ?_)))))))))))
   exact aA [_, _, _] rfl Z ⟨rfl, rfl⟩ (bX (.tail (.tail (.head))) .head .head)
  ·
   have hki : k ≠ i := fun h => c16 (by subst h; rw [hi] at ho; injection ho with ho; exact ho.symm)
   refine At.skip (al (At.then (At.region ?_)))
   refine L.pure Z (aO Z Z (cT (by omega))) ?_
   refine L.mv Z Z (L.nil ?_)
   exact At.round (k + 1) (by omega) (by omega) ⟨rfl, rfl, rfl, rfl, trivial⟩ (bX (.tail (.tail (.head))) .head .head)
 ·
  refine At.exit (au (ar (an (At.then (At.seq (At.region (L.as Z Z (L.nil (At.then (At.ret ?_))))))))))
  exact absurd hk (by omega)
end Go.Proofs.YtmeegfamopaljaaGreatDoor

namespace Go.SL
open Go Go.RowKit
def ip {α : Type} : List α → Nat → List α → List α
 | xs, _, [] => xs
 | xs, o, v :: vs => ip (xs.set o v) (o + 1) vs
theorem er {α : Type} : ∀ (vs xs : List α) (o : Nat), (ip xs o vs).length = xs.length
 | [], _, _ => rfl
 | v :: vs, xs, o => by simp [ip, er vs]
theorem f7 {α : Type} : ∀ (vs xs : List α) (o j : Nat), (j < o ∨ o + vs.length ≤ j) → (ip xs o vs)[j]? = xs[j]?
 | [], _, _, _, _ => rfl
 | v :: vs, xs, o, j, h => by
  simp only [ip]
  rw [f7 vs (xs.set o v) (o + 1) j (by simp at h; omega), List.getElem?_set_ne (by simp at h; omega)]
theorem kL {α : Type} : ∀ (vs xs : List α) (o j : Nat) (u : α), o + vs.length ≤ xs.length → vs[j]? = some u → (ip xs o vs)[o + j]? = some u
 | [], _, _, _, _, _, h => by simp at h
 | v :: vs, xs, o, 0, u, hl, h => by
  simp at h hl; subst h
  simp only [ip]
  rw [f7 vs (xs.set o v) (o + 1) (o + 0) (by omega)]
  simp only [Nat.add_zero] at hl ⊢
  exact List.getElem?_set_self (by omega)
 | v :: vs, xs, o, j + 1, u, hl, h => by
  simp only [ip]
  have := kL vs (xs.set o v) (o + 1) j u (by simp at hl ⊢; omega) (by simpa using h)
  rw [show o + (j + 1) = o + 1 + j by omega]
  exact this
theorem lO {α : Type} : ∀ (vs xs : List α) (o k : Nat), (ip xs o vs).take k = ip (xs.take k) o vs
 | [], _, _, _ => rfl
 | v :: vs, xs, o, k => by simp only [ip]; rw [lO vs, List.take_set]
theorem gc : ∀ (vs : List Value) (cs : Array Value) (o : Nat), (eZ cs o vs).toList = ip cs.toList o vs
 | [], _, _ => rfl
 | v :: vs, cs, o => by simp only [eZ, ip]; rw [gc vs]; simp
section
variable {P : Program} {E : Env} {n : Nat} {D : List Deferred} {ts : List (Nat × Value)} {l : List HP} {ops : Array Oper} {Q : Exit → Act → World → Prop} {ty : TypeId} {pos : String} {af : Array Edge} {gd : Option (Nat × Bool)}
theorem fd {t e : TypeId} {x y : Operand} {g o m c size : Nat} {v : Value} {xs : List Value} {r : List HP} {K : Act → World → Prop} (s : Sel (row e size (.slice (some ⟨g, 0, none⟩) m c) m xs) l r) (hz : bZ P t 1) (hx : ev ts x = some (.pointer (some ⟨g, o, none⟩))) (hy : ev ts y = some v) (hv : v.oneCell' = true)
 (ho : o < m * size) (h : At E n D ts (row e size (.slice (some ⟨g, 0, none⟩) m c) m (xs.set o v) :: r) K) : At E n D ts l (fun a w => (Oper.mk none (.store t x y) ty pos af gd).wp P a w K Q) := by
 refine je s (fun h _ _ => by cases h) ?_
 intro g' cap cur hg _ hm hc hs ht
 injection hg with hg _ hcap
 injection hg with hg
 injection hg with hg
 subst hg; subst hcap
 have hoc : o < cur.size := by rw [hs]; exact Nat.lt_of_lt_of_le ho (Nat.mul_le_mul_right _ hm)
 refine bC Z hz hx hy hv hoc (At.ent (cq hm hc (by rw [Array.size_setIfInBounds]; exact hs) ?_) h)
 rw [Array.toList_setIfInBounds, List.take_set, ht]
theorem jE {t e : TypeId} {x y : Operand} {g o m c size k : Nat} {vs xs : List Value} {r : List HP} {K : Act → World → Prop} (s : Sel (row e size (.slice (some ⟨g, 0, none⟩) m c) m xs) l r) (hz : bZ P t k) (hk : vs.length = k) (hx : ev ts x = some (.pointer (some ⟨g, o, none⟩))) (hy : ev ts y = some (.agg vs.toArray)) (hv : ∀ u ∈ vs, u.oneCell' = true)
 (ho : o + k ≤ m * size) (h : At E n D ts (row e size (.slice (some ⟨g, 0, none⟩) m c) m (ip xs o vs) :: r) K) : At E n D ts l (fun a w => (Oper.mk none (.store t x y) ty pos af gd).wp P a w K Q) := by
 refine je s (fun h _ _ => by cases h) ?_
 intro g' cap cur hg _ hm hc hs ht
 injection hg with hg _ hcap
 injection hg with hg
 injection hg with hg
 subst hg; subst hcap
 have hoc : o + k ≤ cur.size := by rw [hs]; exact Nat.le_trans ho (Nat.mul_le_mul_right _ hm)
 refine aG Z hz hx hy hk hv (by omega) (At.ent (cq hm hc (by rw [eo]; exact hs) ?_) h)
 rw [gc, lO, ht]
end
end Go.SL
