/- The journal: an entry that is durable. -/
import Derived.Test.YtmeegfamopaljaaGreatDoorHnH
import Derived.Test.YtmeegfamopaljaaGreatDoorHnE
import Derived.Lib.ItoaLen
import Derived.Lib.ItoaMem
import Derived.Lib.AppendIntMem
import Derived.Test.YtmeegfamopaljaaGreatDoorHnG
import Derived.Test.YtmeegfamopaljaaGreatDoorHnB
import Derived.Test.YtmeegfamopaljaaGreatDoorHnD
set_option maxRecDepth 10000
namespace FK
structure Jn where
 n : Nat
 torn : Bool
 broken : Int
def nt (n : Nat) : ByteArray := ⟨(Go.Lib.decDigits n).toArray⟩
def bg (n : Nat) : ByteArray := ⟨#[108, 111, 103]⟩ ++ nt n
def Jn.add (J : Jn) (σ : Dsk) (s : ByteArray) : Jn × Dsk × Int :=
 if J.broken ≠ 0 then (J, σ, J.broken) else if (σ.tell ⟨2, bg J.n, s⟩).2 ≠ 0 then ({ J with broken := (σ.tell ⟨2, bg J.n, s⟩).2 }, (σ.tell ⟨2, bg J.n, s⟩).1, (σ.tell ⟨2, bg J.n, s⟩).2)
 else ({ J with broken := (σ.tell ⟨2, bg J.n, s⟩).1.sync.2 }, (σ.tell ⟨2, bg J.n, s⟩).1.sync.1, (σ.tell ⟨2, bg J.n, s⟩).1.sync.2)
end FK
namespace Go.Proofs.YtmeegfamopaljaaGreatDoor
open Go Go.RowKit Go.SL
variable {G : Env → Prop}
theorem rR (e : Int) : (ef e).oneCell' = true := by
 unfold ef
 split <;> rfl
theorem qF {P : Program} {ts : List (Nat × Value)} {x : Operand} {t : TypeId} {v : Value} (hx : ev ts x = some (.iface t v)) : Ev P ts (.nilCheck x) (.iface t v) Any := by
 intro a w _ _ _ _ _ k _
 simp [execOp, k.eval hx]
theorem AV (p : Addr) (w : World) : (Go.method (Tryz.prog.types.size + Made.depth) 115 (.pointer (some p)) "Append").run Tryz.prog w = .ok (326, .pointer (some p)) w := by kernel_rfl
theorem rp (p : Addr) (w : World) : (Go.method (Tryz.prog.types.size + Made.depth) 115 (.pointer (some p)) "Sync").run Tryz.prog w = .ok (330, .pointer (some p)) w := by kernel_rfl
theorem yt (p : Addr) (w : World) : (Go.method (Tryz.prog.types.size + Made.depth) 115 (.pointer (some p)) "Names").run Tryz.prog w = .ok (327, .pointer (some p)) w := by kernel_rfl
theorem BD (p : Addr) (w : World) : (Go.method (Tryz.prog.types.size + Made.depth) 115 (.pointer (some p)) "Read").run Tryz.prog w = .ok (328, .pointer (some p)) w := by kernel_rfl
abbrev mr (d : Nat) (J : FK.Jn) : Array Value := #[.iface 115 (aO d), .int .i64 J.n, .bool J.torn, ef J.broken]
abbrev au (j d : Nat) (J : FK.Jn) : HP := blk j 254 (mr d J)
theorem xk {n : Nat} (hn : n < 1000000) : Does Tryz.prog Good 200 [.int .i64 n].toArray [] fun v m => v = bH (FK.nt n) ∧ m = [] :=
 (eJ (G := Good) (φ := fun _ => True) fun _ w hE hw _ => (lO n (by omega) (by omega) w (hE.pow w hw)).mono fun _ _ ⟨h1, k, os, h2⟩ => ⟨by rw [h1, Lib.itoa_nonneg]; rfl, by rw [h2]; exact Lib.below_grow _ _ (Nat.le_refl _) k os⟩).does
theorem zR (n : Nat) (hn : n < 1000000) : (FK.nt n).size ≤ 21 := by
 have h := Lib.itoa_length_le (n : Int) (by omega) (by omega)
 rw [Lib.itoa_nonneg] at h
 have e : (FK.nt n).size = (Lib.decDigits n).length := by
  show (Lib.decDigits n).toArray.size = _
  simp
 omega
theorem iY {kind : ByteArray} {n : Nat} (hn : n < 1000000) (hk : kind.size ≤ 1000) : Does Tryz.prog Good 155 [bH kind, .int .i64 n].toArray [] fun v m => v = bH (kind ++ FK.nt n) ∧ m = [] := by
 have hd := zR n hn
 refine Does.body Tryz.func155 Z Z fun E fr hE => ?_
 refine aL (At.seq (At.region (L.as Z Z (L.nil (At.then (At.seq (At.region (L.mv Z Z (L.mv Z Z ?_)))))))))
 refine L.op Z (ah Z Z Z hE (xk hn) (Ent.refl _) ?_)
 rintro v m ⟨rfl, rfl⟩
 exact aL (L.pure Z (pV Z Z (by omega)) (L.as Z Z (L.nil (At.then (At.ret (aA [] rfl Z ⟨rfl, rfl⟩ (Ent.refl _)))))))
theorem kl (bs : List UInt8) (h : bs.length ≤ 1099511627776) : (FK.frame bs).length ≤ bs.length + 14 := by
 have := eH (n := bs.length) (by omega)
 unfold FK.frame FK.fM
 simp
 omega
structure Roomy (σ : FK.Dsk) : Prop where
 now : FK.kW σ.now ≤ 4611686018427387904
 dur : FK.kW σ.dur + FK.gW σ.pend ≤ 4611686018427387904
 pend : σ.pend.length ≤ 1000000000000
theorem tZ (σ : FK.Dsk) (o : FK.DOp) : ((σ.tell o).1.dur = σ.dur) ∧ ((σ.tell o).1.pend = σ.pend ∨ (σ.tell o).1.pend = σ.pend ++ [o]) ∧ ((σ.tell o).1.now = σ.now ∨ (σ.tell o).1.now = FK.dh σ.now o) := by
 have hw : σ.writes.1.now = σ.now ∧ σ.writes.1.dur = σ.dur ∧ σ.writes.1.pend = σ.pend := by
  unfold FK.Dsk.writes; split
  · exact ⟨rfl, rfl, rfl⟩
  · split <;> exact ⟨rfl, rfl, rfl⟩
 unfold FK.Dsk.tell
 split
 · exact ⟨hw.2.1, .inr (by show σ.writes.1.pend ++ [o] = _; rw [hw.2.2]), .inl hw.1⟩
 · split
   · exact ⟨hw.2.1, .inl hw.2.2, .inl hw.1⟩
   · split
     · exact ⟨hw.2.1, .inl hw.2.2, .inl hw.1⟩
     · exact ⟨hw.2.1, .inr (by show σ.writes.1.pend ++ [o] = _; rw [hw.2.2]), .inr (by show FK.dh σ.writes.1.now o = _; rw [hw.1])⟩
set_option maxHeartbeats 1000000 in
theorem sf {j d : Nat} {J : FK.Jn} {σ : FK.Dsk} {p : HP} {A : Option Addr} {bs : List UInt8} (c : Nat) (hn : J.n < 1000000) (hp : Reads p A bs) (hA : A = none → bs = []) (hl : bs.length ≤ 1000000000000) (hr : Roomy σ) : Does Tryz.prog Good 95 [aO j, .slice A bs.length c].toArray [au j d J, ak d σ, p] fun v m => v = ef (J.add σ (dr (FK.frame bs))).2.2 ∧ m = [au j d (J.add σ (dr (FK.frame bs))).1, ak d (J.add σ (dr (FK.frame bs))).2.1, p] := by
 have hfl := kl bs (by omega)
 have h1 := hr.now
 have h2 := hr.dur
 have h3 := hr.pend
 refine Does.body Tryz.func95 Z Z fun E fr hE => ?_
 refine cE (At.seq (At.region (L.as Z Z (L.nil (At.then (At.seq (At.seq ?_)))))))
 by_cases HB : J.broken = 0
 ·
  have hadd : J.add σ (dr (FK.frame bs)) = if (σ.tell ⟨2, FK.bg J.n, (dr (FK.frame bs))⟩).2 ≠ 0 then ({ J with broken := (σ.tell ⟨2, FK.bg J.n, (dr (FK.frame bs))⟩).2 }, (σ.tell ⟨2, FK.bg J.n, (dr (FK.frame bs))⟩).1, (σ.tell ⟨2, FK.bg J.n, (dr (FK.frame bs))⟩).2) else ({ J with broken := (σ.tell ⟨2, FK.bg J.n, (dr (FK.frame bs))⟩).1.sync.2 }, (σ.tell ⟨2, FK.bg J.n, (dr (FK.frame bs))⟩).1.sync.1, (σ.tell ⟨2, FK.bg J.n, (dr (FK.frame bs))⟩).1.sync.2) := by unfold FK.Jn.add; rw [if_neg (by rw [HB]; simp)]
  refine aD j #[.iface 115 (aO d), .int .i64 J.n, .bool J.torn, .nilIface] (by unfold mr ef; rw [if_pos HB]) ?_
  refine At.region (L.mv Z Z (aR Z Z (aI 3 Z Z Z (bd Z Z Z Z (L.pure Z (im Z Z) (L.nil (At.then (aQ Z (Dr.start Z (dP 0 Z Z (ae Z) (dP 1 Z Z (ae Z) (dP 2 Z Z (am Z) (dP 3 Z Z (ab (off := 0) Z Z) (dL 4 Z Z (aa Z Z) (ag Z) (dP 5 Z Z (ae Z) (dP 6 Z Z (am Z) (dP 7 Z Z (ab (off := 1) Z Z) (dL 8 Z Z (aa Z Z) (ag Z) (dP 10 Z Z (ae Z) ?_)))))))))))))))))))
  refine dP 12 Z Z (qF Z) (dP 13 Z Z (ae Z) ?_)
  refine dR 9 Z Z (ah Z Z Z hE (iY (kind := ⟨#[108, 111, 103]⟩) hn (by decide)) (Ent.refl _) ?_)
  rintro v m ⟨rfl, rfl⟩
  refine aL (dK [false, true] (Kept.cons (ag Z) Kept.nil) ?_)
  refine dR 11 Z Z (ah Z Z Z hE (sW c hp hA (by omega)) (Ent.sel (.tail (.tail .head))) ?_)
  rintro v m rfl
  refine aJ (dK [true] (Kept.cons (ag Z) Kept.nil) ?_)
  refine dR 14 Z Z (ey Z Z Z (AV ⟨d, 0, none⟩) Z hE (tB (name := FK.bg J.n) (by omega) (by omega) (by omega)) (aP (.tail (.tail (.tail .head))) .head) ?_)
  rintro v m ⟨rfl, rfl⟩
  refine ai ?_
  obtain ⟨ω, hω⟩ : ∃ ω, ω = σ.tell ⟨2, FK.bg J.n, (dr (FK.frame bs))⟩ := ⟨_, rfl⟩
  have hcases := tZ σ ⟨2, FK.bg J.n, (dr (FK.frame bs))⟩
  rw [← hω] at hcases hadd ⊢
  obtain ⟨σ1, e1⟩ := ω
  have htx : (dr (FK.frame bs)).size = (FK.frame bs).length := jM _
  obtain ⟨hc1, hc2, -⟩ := hcases
  have hpv : FK.gW (σ.pend ++ [⟨2, FK.bg J.n, (dr (FK.frame bs))⟩]) = FK.gW σ.pend + (FK.frame bs).length := by simp [FK.gW, htx]
  have hq1 : FK.kW σ1.dur + FK.gW σ1.pend ≤ 9223372036854775807 := by
   simp only at hc1 hc2
   rw [hc1]
   rcases hc2 with h | h <;> rw [h]
   · omega
   · rw [hpv]; omega
  have hq2 : σ1.pend.length ≤ 1099511627776 := by
   simp only at hc2
   rcases hc2 with h | h <;> rw [h]
   · omega
   · rw [List.length_append]; simp; omega
  refine dK [true] (Kept.cons (ag Z) Kept.nil) (dP 15 Z Z (am Z) (dP 16 Z Z (ab (off := 3) Z Z) ?_))
  refine dR 17 Z Z (bB Z Z Z Z (rR _) (by show 3 < 4; omega) ?_)
  refine dK [false] Kept.nil (dE (At.then (At.seq (At.seq ?_))))
  by_cases HE : e1 = 0
  ·
   refine aD j #[.iface 115 (aO d), .int .i64 J.n, .bool J.torn, .nilIface] (by show (#[_, _, _, ef e1] : Array Value) = _; unfold ef; rw [if_pos HE]) ?_
   have ht : J.add σ (dr (FK.frame bs)) = ({ J with broken := σ1.sync.2 }, σ1.sync.1, σ1.sync.2) := by rw [hadd, if_neg (fun h => h HE)]
   refine At.region (L.mv Z Z (aR Z Z (aI 3 Z Z Z (bd Z Z Z Z (L.pure Z (im Z Z) (L.nil (At.then (aQ Z (At.region (L.mv Z Z (L.mv Z Z (aR Z Z (aI 0 Z Z Z (bd Z Z Z Z ?_))))))))))))))
   refine L.op Z (ey Z Z Z (rp ⟨d, 0, none⟩) Z hE (iV hq1 hq2) (Ent.sel (.tail .head)) ?_)
   rintro v m ⟨rfl, rfl⟩
   refine ai (aR Z Z (aI 3 Z Z Z (L.st Z Z Z (rR _) (by show 3 < 4; omega) (L.nil (At.then (At.seq (At.region (L.mv Z Z (aR Z Z (aI 3 Z Z Z ?_))))))))))
   refine bd Z Z Z Z (L.as Z Z (L.nil (At.then (At.ret ?_))))
   rw [ht]
   exact aA [au j d { J with broken := σ1.sync.2 }, ak d σ1.sync.1, p] rfl Z ⟨rfl, rfl⟩ (Ent.refl _)
  ·
   refine aD j #[.iface 115 (aO d), .int .i64 J.n, .bool J.torn, .iface 48 (.int .i64 e1)] (by show (#[_, _, _, ef e1] : Array Value) = _; unfold ef; rw [if_neg HE]) ?_
   have ht : J.add σ (dr (FK.frame bs)) = ({ J with broken := e1 }, σ1, e1) := by rw [hadd, if_pos HE]
   refine At.region (L.mv Z Z (aR Z Z (aI 3 Z Z Z (bd Z Z Z Z (L.pure Z (cz Z Z) (L.nil (At.then (aj Z (At.skip (At.then (At.seq (At.region (L.mv Z Z (aR Z Z (aI 3 Z Z Z (bd Z Z Z Z (L.as Z Z (L.nil (At.then ?_)))))))))))))))))))
   refine At.ret ?_
   rw [ht]
   refine aA [au j d { J with broken := e1 }, ak d σ1, p] rfl Z ⟨(if_neg HE).symm, rfl⟩ ?_
   show Ent _ (blk j 254 #[_, _, _, ef e1] :: ak d σ1 :: p :: fr)
   unfold ef
   rw [if_neg HE]
   exact Ent.refl _
 ·
  have hadd : J.add σ (dr (FK.frame bs)) = (J, σ, J.broken) := by unfold FK.Jn.add; rw [if_pos HB]
  rw [hadd]
  refine aD j #[.iface 115 (aO d), .int .i64 J.n, .bool J.torn, .iface 48 (.int .i64 J.broken)] (by unfold mr ef; rw [if_neg HB]) ?_
  refine At.region (L.mv Z Z (aR Z Z (aI 3 Z Z Z (bd Z Z Z Z (L.pure Z (cz Z Z) (L.nil (At.then (aj Z (At.skip (At.then (At.seq (At.seq (At.region (L.mv Z Z (aR Z Z (aI 3 Z Z Z (bd Z Z Z Z (L.pure Z (cz Z Z) (L.nil ?_)))))))))))))))))))
  refine At.then (aj Z (At.skip (At.then (At.seq (At.region (L.mv Z Z (aR Z Z (aI 3 Z Z Z (bd Z Z Z Z (L.as Z Z (L.nil (At.then (At.ret (aA [au j d J, ak d σ, p] rfl Z ⟨(if_neg HB).symm, rfl⟩ ?_))))))))))))))
  show Ent _ (blk j 254 #[_, _, _, ef J.broken] :: ak d σ :: p :: fr)
  unfold ef
  rw [if_neg HB]
  exact Ent.refl _
end Go.Proofs.YtmeegfamopaljaaGreatDoor

namespace FK
theorem rT {len : Nat} : ∀ (l : List Int) (p : Int), -1 ≤ p → EdgesOk len p l → ∀ x ∈ l, 0 ≤ x ∧ x < len
 | [], _, _, _ => by intro x hx; simp at hx
 | y :: l, p, hp, h => by
  intro x hx
  obtain ⟨h1, h2, h3⟩ := h
  rcases List.mem_cons.1 hx with rfl | hx
  · omega
  · exact rT l y (by omega) h3 x hx
theorem Fit.after {f : Flow} (h : Fit f) : ∀ nd ∈ f.CG, ∀ x ∈ nd.after, 0 ≤ x ∧ x < (f.CG.length : Int) := fun nd cN x hx => by
 obtain ⟨i, hi⟩ := List.getElem?_of_mem cN
 exact rT _ _ (by omega) (h.CG i nd (bU hi) hi).2 x hx
theorem Fit.node {f : Flow} (h : Fit f) {nd : Node} (cN : nd ∈ f.CG) : cM nd := by
 obtain ⟨i, hi⟩ := List.getElem?_of_mem cN
 exact (h.CG i nd (bU hi) hi).1
theorem wi {nd : Node} (h : cM nd) (k : Int) (seed : Nat) : 0 ≤ dk nd.base nd.cap nd.CK k seed ∧ dk nd.base nd.cap nd.CK k seed ≤ 2097152 := by
 obtain ⟨_, _, _, _, ⟨b1, b2⟩, ⟨c1, c2⟩, j1, j2⟩ := h
 have hm : 0 ≤ (seed : Int) % (nd.CK + 1) ∧ (seed : Int) % (nd.CK + 1) < nd.CK + 1 := ⟨Int.emod_nonneg _ (by omega), Int.emod_lt_of_pos _ (by omega)⟩
 unfold dk
 have hp : 0 ≤ nd.base * 2 ^ (k.toNat - 1) := Int.mul_nonneg (by omega) (Int.pow_nonneg (by omega))
 split
 · omega
 · split
   · have : min nd.cap (nd.base * 2 ^ (k.toNat - 1)) ≤ nd.cap := Int.min_le_left _ _
     have : 0 ≤ min nd.cap (nd.base * 2 ^ (k.toNat - 1)) := by omega
     omega
   · omega
end FK
namespace Go.Proofs.YtmeegfamopaljaaGreatDoor
open Go Go.RowKit Go.SL
section
variable {S : FK.En} {e id k t : Nat} {R : FK.Rn} {nd : FK.Node} {s : FK.Sp} {P : FK.Pl}
theorem wH (ba ca ji k seed : Int) : eY ba ca ji k seed = FK.dk ba ca ji k seed := rfl
theorem l7 {f : FK.Flow} (h : FK.Fit f) : ∀ n ∈ f.CG, (i64 n.CJ ∧ i64 n.close ∧ i64 n.beat ∧ i64 n.base ∧ i64 n.cap ∧ i64 n.CK) ∧ ∀ x ∈ n.after, i64 x := fun n hn => by
 obtain ⟨a1, a2, ⟨b1, b2⟩, ⟨c1, c2⟩, ⟨d1, d2⟩, ⟨e1, e2⟩, f1, f2⟩ := h.node hn
 have h12 := h.head.2.2
 refine ⟨⟨?_, ?_, ?_, ?_, ?_, ?_⟩, fun x hx => ?_⟩
 all_goals first | (unfold i64; omega) | (have := h.after n hn x hx; unfold i64; omega)
theorem rP {p : EA} (h : FK.Ok S) {wh : Int} (hR : S.getR id = some R) (hs : R.CF[k]? = some s) (hsets : S.sets + 1 < 9223372036854775807) (hends : S.ends < 9223372036854775807) : Does Tryz.prog Good 234 [aO e, gE ⟨id, (k : Int), wh⟩].toArray [ap e p S] fun v m => v = .tuple #[] ∧ m = [ap e p (S.failed id k)] := by
 obtain ⟨nd, hn, hp⟩ := h.node hR hs
 have hr := h.run id R hR
 have cN := List.mem_of_getElem? hn
 have hok := hr.fl.node cN
 have h12 := hr.fl.head.2.2
 have hw := FK.wi hok s.CE S.seed
 have hq := h.queueLe
 have ht := h.tmsLe
 obtain ⟨a1, a2, ⟨b1, b2⟩, ⟨c1, c2⟩, ⟨d1, d2⟩, ⟨e1, e2⟩, f1, f2⟩ := hok
 refine (uQ (G := Good) (wh := wh) (fun E w hE hw => hE.tab w hw) hR hs hn hr.len h12 hr.fl.after (l7 hr.fl) (by omega) (by omega) hends h.now hsets h.seed d1 e1 e2 f1 f2 (by rw [wH]; omega)).mono ?_
 rintro v m ⟨rfl, ⟨h1, rfl⟩ | ⟨h1, left, T, ho, hst, rfl⟩⟩
 · refine ⟨_, ⟨rfl, rfl⟩, ?_⟩
   rw [FK.gS hR hs hn, if_pos h1]
   exact Ent.refl _
 · refine ⟨_, ⟨rfl, rfl⟩, ?_⟩
   rw [FK.gS hR hs hn, if_neg (by omega), FK.Bp h hR ho hst]
   exact Ent.refl _
theorem vy {p : EA} (h : FK.Ok S) {q : List FK.Pl} (hq : S.CH = ⟨id, (k : Int), 0⟩ :: q) (hR : S.getR id = some R) (hs : R.CF[k]? = some s) (hn : R.fl.CG[k]? = some nd) (hsets : S.sets + 1 < 9223372036854775807) (htok : S.CC < 9223372036854775807) : Does Tryz.prog Good 101 [aO e].toArray [ap e p S] fun v m => v = .tuple #[gc id k (s.CE + 1) (S.CC + 1), .bool true] ∧ m = [ap e p (S.hand ⟨id, (k : Int), 0⟩ q R s nd)] := by
 have hp := (h.run id R hR).sp k s nd hs hn
 have ht := h.tmsLe
 obtain ⟨a1, a2, ⟨b1, b2⟩, ⟨c1, c2⟩, _⟩ := (h.run id R hR).fl.node (List.mem_of_getElem? hn)
 have h1 := hp.tr0
 have h2 := hp.trb
 exact ul hq hR hs hn h.now (by omega) (by omega) (by omega) hsets (by omega) htok (fun t ht => (h.tlow t ht).2) h1 (by omega)
theorem mR {p : EA} (h : FK.Ok S) (ht : (S.CI.find? (·.1 == t)).map (·.2) = some P) (hends : S.ends < 9223372036854775807) : Does Tryz.prog Good 207 [aO e, aY t].toArray [ap e p S] fun v m => v = .tuple #[] ∧ m = [ap e p (S.complete t)] := by
 obtain ⟨id, k, R, s, n, rfl, hR, hs, hn, _⟩ := h.find ht
 have hr := h.run id R hR
 have hq := h.queueLe
 have htm := h.tmsLe
 have h12 := hr.fl.head.2.2
 exact oX ht hR hs hr.len hr.fl.after (by omega) (by omega) (by omega) hends
theorem vX {p : EA} (h : FK.Ok S) {wh : Int} (ht : (S.CI.find? (·.1 == t)).map (·.2) = some ⟨id, (k : Int), wh⟩) (hR : S.getR id = some R) (hn : R.fl.CG[k]? = some nd) (hsets : S.sets < 9223372036854775807) : Does Tryz.prog Good 206 [aO e, aY t].toArray [ap e p S] fun v m => v = .tuple #[] ∧ m = [ap e p (S.life ⟨id, (k : Int), wh⟩ nd)] := by
 have htm := h.tmsLe
 obtain ⟨_, _, _, ⟨c1, c2⟩, _⟩ := (h.run id R hR).fl.node (List.mem_of_getElem? hn)
 exact xK ht hR hn h.now (by omega) hsets (by omega)
theorem xJ {p : EA} (h : FK.Ok S) (hR : S.getR id = some R) (hends : S.ends < 9223372036854775807) : Does Tryz.prog Good 209 [aO e, aY id].toArray [ap e p S] fun v m => v = .tuple #[] ∧ m = [ap e p (S.finish id 4)] := by
 have hr := h.run id R hR
 have hq := h.queueLe
 have htm := h.tmsLe
 have h12 := hr.fl.head.2.2
 have hl := hr.len
 exact tx hR (by omega) (by omega) (by omega) hends
theorem xr {p : EA} (h : FK.Ok S) (st : Int) (hR : S.getR id = some R) (hends : S.ends < 9223372036854775807) : Does Tryz.prog Good 235 [aO e, aY id, .int .i64 st].toArray [ap e p S] fun v m => v = .tuple #[] ∧ m = [ap e p (S.finish id st)] := by
 have hr := h.run id R hR
 have hq := h.queueLe
 have htm := h.tmsLe
 have h12 := hr.fl.head.2.2
 have hl := hr.len
 exact jY hR (by omega) (by omega) (by omega) hends
theorem yX {p : EA} (h : FK.Ok S) (hR : S.getR id = some R) : Does Tryz.prog Good 105 [aO e, aY id].toArray [ap e p S] fun v m => ∃ v2 v3, v = .tuple #[.agg (bG id R.state v2 v3).toArray, .bool true] ∧ m = [ap e p S, aF v2 (R.CF.map (·.state)), aF v3 (R.CF.map (·.CE))] := by
 have hr := h.run id R hR
 have h12 := hr.fl.head.2.2
 have hl := hr.len
 exact sE hR (by omega)
set_option maxRecDepth 10000 in
theorem vN {p : EA} (h : FK.Ok S) (ht : (S.CI.find? (·.1 == t)).map (·.2) = some P) (hsets : S.sets + 1 < 9223372036854775807) (hends : S.ends < 9223372036854775807) : Does Tryz.prog Good 208 [aO e, aY t].toArray [ap e p S] fun v m => v = .tuple #[] ∧ m = [ap e p (S.fail t)] := by
 obtain ⟨id, k, R, s, n, rfl, hR, hs, hn, _⟩ := h.find ht
 rw [FK.li ht]
 refine Does.body Tryz.func208 Z Z fun E fr hE => ?_
 refine ai (At.region (L.mv Z Z (L.mv Z Z (aR Z Z (aI 2 Z Z Z ?_)))))
 refine L.val Z (aa (v := .map (some p.tm)) Z Z) (aU fun _ _ _ => rfl) ?_
 refine L.mv Z Z (L.val Z (eN (m := cx S) Z dV Z Z (yi ht)) kr ?_)
 refine L.op Z (ah Z Z Z hE (rP h hR hs hsets hends) (Ent.refl _) ?_)
 rintro v m ⟨rfl, rfl⟩
 exact ai (L.nil (bm [_] rfl ⟨rfl, rfl⟩ (Ent.refl _)))
end
end Go.Proofs.YtmeegfamopaljaaGreatDoor

namespace FK
end FK
namespace Go.Proofs.YtmeegfamopaljaaGreatDoor
open Go Go.RowKit Go.SL
set_option maxRecDepth 10000 in
set_option maxHeartbeats 1000000 in
theorem vq {e : Nat} {p : EA} {S : FK.En} (h : FK.Ok S) {n : Nat} (hn : n < 18446744073709551616) (hsets : S.sets ≤ 4611686018427387904) (hends : S.ends ≤ 4611686018427387904) : Does Tryz.prog Good 210 [aO e, aY n].toArray [ap e p S] fun v m => v = .tuple #[] ∧ ∃ U, FK.Ticks (S.later n) S U ∧ m = [ap e p U] := by
 have hmass := h.massLe
 have hnow := h.now
 obtain ⟨up, hup⟩ : ∃ up, up = S.later n := ⟨_, rfl⟩
 have hup' : up = min (S.now + n) 4611686018427387904 := hup
 rw [← hup]
 obtain ⟨q, hq⟩ : ∃ q, q = (S.now + n) % 18446744073709551616 := ⟨_, rfl⟩
 refine Does.body Tryz.func210 Z Z fun E fr hE => ?_
 refine ai (At.seq (At.region (L.mv Z Z (aR Z Z (aI 6 Z Z Z ?_)))))
 refine L.val Z (aa Z Z) (aU fun _ _ _ => rfl) ?_
 refine L.op Z (ah Z Z Z hE qz (Ent.refl _) ?_)
 rintro v m ⟨rfl, rfl⟩
 refine ai (L.as Z Z (L.nil (At.then (At.seq (At.region (L.mv Z Z (L.mv Z Z (L.pure Z (aS (r := (q : Int)) Z Z (by rw [kE]; omega)) (L.as Z Z (L.nil (At.then ?_)))))))))))
 refine At.seq (At.cut (X := Nat) (fun y => [(5, .int .u64 y), (0, aO e)]) (fun _ => ap e p S :: fr) (fun y => min y 4611686018427387904 = up) ?_ ?_)
 ·
  refine At.seq (At.region (L.mv Z Z (L.mv Z Z (L.pure Z (bl Z Z Z) (L.nil (At.then ?_))))))
  refine aE Z (fun c19 => ?_) (fun c19 => ?_)
  ·
   refine At.region (L.as Z Z (L.nil ?_))
   exact bb 4611686018427387904 (by omega) ⟨rfl, rfl, trivial⟩ (Ent.refl _)
  ·
   refine At.skip ?_
   exact bb q (by rw [hup']; omega) ⟨rfl, rfl, trivial⟩ (Ent.refl _)
 intro y hy
 refine At.seq (At.region (L.mv Z Z (L.pure Z (yB (r := (up : Int)) Z Z (by omega)) (L.as Z Z (L.nil (At.then (At.block ?_)))))))
 refine bk (X := FK.En) (fun _ => [(5, .int .u64 up), (0, aO e)]) (fun T => ap e p T :: fr) (fun T => FK.Ok T ∧ T.now ≤ up ∧ T.sets + T.mass ≤ S.sets + S.mass ∧ T.ends + T.mass ≤ S.ends + S.mass ∧ ∀ U, FK.Ticks up T U → FK.Ticks up S U) (fun T => T.mass) S ⟨h, by omega, Nat.le_refl _, Nat.le_refl _, fun _ h => h⟩ ⟨rfl, rfl, trivial⟩ (Ent.refl _) ?_
 rintro T ⟨hT, hTn, hTs, hTe, hTU⟩
 replace hTn : T.now ≤ up := hTn
 refine At.block (At.seq ?_)
 by_cases HD : ∀ y ∈ T.tms, up < y.2
 ·
  refine At.region (L.mv Z Z (aR Z Z (aI 6 Z Z Z ?_)))
  refine L.val Z (aa Z Z) (aU fun _ _ _ => rfl) ?_
  refine L.mv Z Z ?_
  refine L.op Z (ah Z Z Z hE (vx up hTn (by omega) (by omega) (by have := hT.tmsLe; omega)) (Ent.refl _) ?_)
  rintro v m hP
  obtain ⟨rfl, rfl⟩ : v = .tuple #[gE ⟨0, 0, 0⟩, .int .u64 0, .bool false] ∧ m = [ap e p { T with now := up }] := by
   rcases hP with ⟨x, tms', hm, hle, _, _⟩ | ⟨_, h1, h2⟩
   · have := HD x hm.mem; omega
   · exact ⟨h1, h2⟩
  refine ai (L.mv Z Z (L.ex Z Z Z (L.ex Z Z Z (L.ex Z Z Z (L.op Z (aN (z := .agg #[.int .u64 0, .int .i64 0, .int .i64 0]) Z Z fun b6 => ?_))))))
  refine L.op Z (aK (vs := fL ⟨0, 0, 0⟩) Z (m := 3) Z Z Z Z (by simp [Value.oneCell']) (by show 0 + 3 ≤ 3; omega) ?_)
  exact L.as Z Z (L.as Z Z (L.nil (At.then (At.block (At.seq (At.region (L.mv Z Z (L.pure Z (cg Z Z) (L.as Z Z (L.nil (At.then (aQ Z (At.ret (aB (aB (cp (aB (bm [_] rfl ⟨rfl, _, hTU _ (.done HD), rfl⟩ Ent.drop))))))))))))))))))
 ·
  refine At.region (L.mv Z Z (aR Z Z (aI 6 Z Z Z ?_)))
  refine L.val Z (aa Z Z) (aU fun _ _ _ => rfl) ?_
  refine L.mv Z Z ?_
  refine L.op Z (ah Z Z Z hE (vx up hTn (by omega) (by omega) (by have := hT.tmsLe; omega)) (Ent.refl _) ?_)
  rintro v m hP
  obtain ⟨x, tms', hm, hle, rfl, rfl⟩ : ∃ (x : FK.KD) (tms' : List FK.KD), FK.IsMin T.tms x tms' ∧ x.2 ≤ up ∧ v = .tuple #[gE x.1, .int .u64 x.2, .bool true] ∧ m = [ap e p { T with now := x.2, tms := tms' }] := by
   rcases hP with h | ⟨h1, _⟩
   · exact h
   · exact absurd h1 HD
  refine ai (L.mv Z Z (L.ex Z Z Z (L.ex Z Z Z (L.ex Z Z Z (L.op Z (aN (z := .agg #[.int .u64 0, .int .i64 0, .int .i64 0]) Z Z fun b6 => ?_))))))
  refine L.op Z (aK (vs := fL x.1) Z (m := 3) Z Z Z Z (by simp [Value.oneCell']) (by show 0 + 3 ≤ 3; omega) ?_)
  refine L.as Z Z (L.as Z Z (L.nil (At.then (At.block (At.seq (aD b6 (fL x.1).toArray Z ?_))))))
  obtain ⟨hp1, hp2, R, hR, hat⟩ := hT.pop hm
  obtain ⟨W, hW⟩ : ∃ W : FK.En, W = { T with now := x.2, tms := tms' } := ⟨_, rfl⟩
  have hWm : W.mass = T.mass := by rw [hW]; rfl
  have hWs : W.sets = T.sets := by rw [hW]
  have hWe : W.ends = T.ends := by rw [hW]
  have hRW : W.getR x.1.run = some R := by rw [hW]; exact hR
  have hnoW : ∀ y ∈ W.tms, y.1 ≠ x.1 := by rw [hW]; exact hp2
  rw [← hW] at hp1 ⊢
  have hless := hp1.due_less hRW hat
  have hdue := hp1.due hRW hat hnoW
  have hstep : ∀ U, FK.Ticks up (W.due x.1) U → FK.Ticks up S U := fun U hU => hTU U (.step hm hle (hW ▸ hU))
  have hl1 := hless.mass
  have hl2 := hless.sets
  have hl3 := hless.ends
  have hnow2 : (W.due x.1).now ≤ up := by rw [hless.now, hW]; exact hle
  refine At.region (L.mv Z Z (L.pure Z (cg Z Z) (L.as Z Z (L.nil (At.then (aj Z (At.seq (At.region (aI 2 Z Z Z (bd Z Z Z Z (L.pure Z (aH Z Z Z) (L.as Z Z (L.nil (At.then ?_))))))))))))))
  refine aE Z (fun c38 => ?_) (fun c38 => ?_)
  ·
   obtain ⟨hpe, hde⟩ : x.1 = ⟨x.1.run, -1, 0⟩ ∧ W.due x.1 = W.finish x.1.run 5 := by
    rcases FK.i7 hRW hat with h | ⟨k, s, hs, ⟨h1, _, _⟩ | ⟨h1, _, _⟩⟩
    · exact h
    · rw [h1] at c38; exact absurd (show (1 : Int) = 0 from c38) (by decide)
    · rcases h1 with h1 | h1
      · rw [h1] at c38; exact absurd (show (1 : Int) = 0 from c38) (by decide)
      · rw [h1] at c38; exact absurd (show (2 : Int) = 0 from c38) (by decide)
   refine At.region (L.mv Z Z (aI 0 Z Z Z (bd Z Z Z Z ?_)))
   refine L.op Z (ah Z Z Z hE (xr hp1 5 hRW (by omega)) (Ent.sel (.tail .head)) ?_)
   rintro v m ⟨rfl, rfl⟩
   refine ai (L.nil (an (an ?_)))
   exact At.round (W.due x.1) ⟨hdue, hnow2, by omega, by omega, hstep⟩ (by omega) ⟨rfl, rfl, trivial⟩ (by rw [hde]; exact Ent.cons Ent.drop)
  ·
   obtain ⟨k, s, hs, hpk, hde⟩ : ∃ (k : Nat) (s : FK.Sp), R.CF[k]? = some s ∧ x.1.node = (k : Int) ∧ ((s.state = 4 ∧ W.due x.1 = W.ready x.1.run k) ∨ (s.state = 3 ∧ W.due x.1 = W.failed x.1.run k)) := by
    rcases FK.i7 hRW hat with ⟨h1, _⟩ | ⟨k, s, hs, ⟨h1, h2, h3⟩ | ⟨h1, h2, h3⟩⟩
    · rw [h1] at c38; exact absurd rfl c38
    · exact ⟨k, s, hs, by rw [h1], .inl ⟨h2, h3⟩⟩
    · exact ⟨k, s, hs, by rcases h1 with h1 | h1 <;> rw [h1], .inr ⟨h2, h3⟩⟩
   obtain ⟨⟨id, nd, wh⟩, at_⟩ := x
   simp only at hpk hRW hde hl1 hl2 hl3 hnow2 hdue hstep
   subst hpk
   refine At.seq (Dr.start Z (dP 0 Z Z (ae Z) (dP 1 Z Z (am Z) (dP 2 Z Z (ab (off := 1) Z Z) ?_))))
   refine dL 3 Z Z (aa Z Z) (aU fun _ _ _ => rfl) ?_
   refine dP 4 Z Z (ab (off := 0) Z Z) (dL 5 Z Z (aa Z Z) (ag Z) (dL 6 Z Z (eN (a := id) (v := aO (p.fb id)) Z dV Z Z (e8 hRW)) dp (dP 7 Z Z (ab (off := 1) Z Z) (dL 8 Z Z (aa Z Z) (ag Z) (dR 9 Z Z (da Z Z Z Z Z Z fun b56 => ?_))))))
   refine dK [true, true, true, true] (Kept.cons (ag Z) (Kept.cons dp (Kept.cons (ag Z) (Kept.cons (aU fun _ _ _ => rfl) Kept.nil)))) ?_
   refine dR 10 Z Z (ah Z Z Z hE (ne [4] (some ⟨b56, 0, none⟩) 1 hRW hs) ((aP (.tail (.tail .head)) .head).trans (Ent.cons (eB (xs := [4]) (show 1 ≤ 9223372036854775807 by omega)))) ?_)
   rintro v m ⟨rfl, rfl⟩
   refine ai ?_
   refine dK [false, false, true, true] (Kept.cons (ag Z) (Kept.cons (aU fun _ _ _ => rfl) Kept.nil)) ?_
   refine dP 11 Z Z (ax Z) (dE (At.then ?_))
   refine aE Z (fun c46 => ?_) (fun c46 => ?_)
   ·
    have h4 : s.state = 4 := by simpa using c46
    have hde2 : W.due ⟨id, (k : Int), wh⟩ = W.ready id k := by rcases hde with h | h; exact h.2; omega
    refine At.region (L.mv Z Z (L.val Z (ao (vs := fL ⟨id, (k : Int), wh⟩) Z Z Z Z) (aw Z) ?_))
    refine L.op Z (ah Z Z Z hE (ot (wh := wh) hRW hs (by have := hp1.queueLe; omega)) (Ent.refl _) ?_)
    rintro v m ⟨rfl, rfl⟩
    refine ai (L.nil (an (an ?_)))
    exact At.round (W.due ⟨id, (k : Int), wh⟩) ⟨hdue, hnow2, by omega, by omega, hstep⟩ (by omega) ⟨rfl, rfl, trivial⟩ (by rw [hde2]; exact Ent.cons Ent.drop)
   ·
    have h4 : ¬ s.state = 4 := by simpa using c46
    have hde2 : W.due ⟨id, (k : Int), wh⟩ = W.failed id k := by rcases hde with h | h; omega; exact h.2
    refine At.region (L.mv Z Z (L.val Z (ao (vs := fL ⟨id, (k : Int), wh⟩) Z Z Z Z) (aw Z) ?_))
    refine L.op Z (ah Z Z Z hE (rP hp1 (wh := wh) hRW hs (by omega) (by omega)) (Ent.refl _) ?_)
    rintro v m ⟨rfl, rfl⟩
    refine ai (L.nil (an (an ?_)))
    exact At.round (W.due ⟨id, (k : Int), wh⟩) ⟨hdue, hnow2, by omega, by omega, hstep⟩ (by omega) ⟨rfl, rfl, trivial⟩ (by rw [hde2]; exact Ent.cons Ent.drop)
end Go.Proofs.YtmeegfamopaljaaGreatDoor

set_option maxRecDepth 10000
namespace FK
def aV (op n : Nat) : List UInt8 := UInt8.ofNat op :: bA n
end FK
namespace Go.Proofs.YtmeegfamopaljaaGreatDoor
open Go Go.RowKit Go.SL
abbrev gx (f e : Nat) (jv : Value) : HP := blk f 171 #[aO e, jv]
abbrev cD (f e j : Nat) : HP := gx f e (aO j)
section
variable {Q : FK.En → Prop} {S : FK.En} {e f n : Nat} {jv : Value} {bs : List UInt8} {σ : FK.Dsk} {J : FK.Jn}
theorem pW {b : Nat} {r : List HP} (h : bs.length ≤ maxLen) : Ent (blk b 5 (bR bs).toArray :: r) (bO (.slice (some ⟨b, 0, none⟩) bs.length bs.length) bs :: r) :=
 cC (Nat.le_refl _) h (by simp [bR]) (by rw [List.take_of_length_le (by simp [bR])])
theorem il {A : Option Addr} {c : Nat} (f1 : A = none → bs.length = 0 ∧ c = 0) (f2 : ∀ ad, A = some ad → ∃ g, ad = ⟨g, 0, none⟩) : Reads (bO (.slice A bs.length c) bs) A bs ∧ (A = none → bs = []) := by
 refine ⟨Reads.row fun hne => ?_, fun h => List.eq_nil_of_length_eq_zero (f1 h).1⟩
 have hp := List.length_pos_iff.2 hne
 cases A with
 | none => have := (f1 rfl).1; omega
 | some ad => obtain ⟨g, rfl⟩ := f2 ad rfl; exact ⟨g, rfl⟩
theorem pC {j d : Nat} {op : Nat} (_hop : op < 256) (hn : n < 18446744073709551616) (hJ : J.n < 1000000) (hr : Roomy σ) : Does Tryz.prog Good 100 [aO f, .int .i64 op, aY n].toArray [cD f e j, au j d J, ak d σ] fun v m => v = ef (J.add σ (dr (FK.frame (FK.aV op n)))).2.2 ∧ m = [cD f e j, au j d (J.add σ (dr (FK.frame (FK.aV op n)))).1, ak d (J.add σ (dr (FK.frame (FK.aV op n)))).2.1] := by
 have hel : (FK.aV op n).length ≤ 11 := by
  have := eH (n := n) hn
  unfold FK.aV
  simp
  omega
 refine Does.body Tryz.func100 Z Z fun E fr hE => ?_
 refine cE (At.seq (At.region (L.as Z Z (L.nil (At.then (At.seq (Dr.start Z (dP 0 Z Z (ae Z) (dP 1 Z Z (am Z) (dP 2 Z Z (ab (off := 1) Z Z) (dL 3 Z Z (aa Z Z) (ag Z) (dP 4 Z Z (ae Z) (dP 5 Z Z (bz (r := ((UInt8.ofNat op).toNat : Int)) Z Z Z (fT op)) (dP 7 Z Z (ae Z) (dR 6 Z Z (da Z Z Z Z Z Z fun b13 => (dK [true] (Kept.cons (ag Z) Kept.nil) ?_)))))))))))))))))
 refine dR 8 Z Z (ah Z Z Z hE (eE (.slice (some ⟨b13, 0, none⟩) 1 1) [UInt8.ofNat op] n hn (by simp)) (pW (bs := [UInt8.ofNat op]) (by unfold maxLen; simp)) ?_)
 rintro v m rfl
 refine ai ?_
 refine At.ent (l' := bO v (FK.aV op n) :: cD f e j :: au j d J :: ak d σ :: fr) (Ent.refl _) ?_
 refine aC .head ?_
 rintro A c rfl f1 f2 - - -
 obtain ⟨hreads, hnil⟩ := il f1 f2
 refine dK [true] (Kept.cons (ag Z) Kept.nil) ?_
 refine dR 9 Z Z (ah Z Z Z hE (sf c hJ hreads hnil (by omega) hr) (cc (.tail (.tail .head)) (.tail (.tail .head)) .head) ?_)
 rintro v m ⟨hv, rfl⟩
 refine cE (dK [false] Kept.nil (dP 10 Z Z (ax Z) (dE (At.then (At.ret ?_)))))
 exact aA [cD f e j, au j d (J.add σ (dr (FK.frame (FK.aV op n)))).1, ak d (J.add σ (dr (FK.frame (FK.aV op n)))).2.1] rfl Z ⟨hv, rfl⟩ (by show Ent (au j d _ :: ak d _ :: _ :: cD f e j :: fr) _; exact (Ent.sel (.tail (.tail (.tail .head)))).trans (Ent.cons (Ent.cons (Ent.cons Ent.drop))))
theorem zQ {p : EA} (hC : Does Tryz.prog Good 101 [aO e].toArray [ap e p S] fun v m => (∃ u, v = u) ∧ ∃ U, Q U ∧ m = [ap e p U]) : Does Tryz.prog Good 166 [aO f, .int .i64 2, aY n].toArray [gx f e jv, ap e p S] fun v m => v = .tuple #[] ∧ ∃ U, Q U ∧ m = [gx f e jv, ap e p U] := by
 refine Does.body Tryz.func166 Z Z fun E fr hE => ?_
 refine aJ (At.seq (At.region (L.mv Z Z (L.nil (At.then (At.block (At.seq (At.region (L.pure Z (aH Z Z Z) (L.as Z Z (L.nil (At.then (aQ Z (At.region (L.mv Z Z (aR Z Z (aI 0 Z Z Z (bd Z Z Z Z ?_))))))))))))))))))
 refine L.op Z (ah Z Z Z hE hC (Ent.sel (.tail .head)) ?_)
 rintro v m ⟨-, U, hU, rfl⟩
 exact ai (L.nil (an (bm [gx f e jv, ap e p U] rfl ⟨rfl, U, hU, rfl⟩ (Ent.sel (.tail .head)))))
theorem rZ {p : EA} (hC : Does Tryz.prog Good 206 [aO e, aY n].toArray [ap e p S] fun v m => (v = .tuple #[]) ∧ ∃ U, Q U ∧ m = [ap e p U]) : Does Tryz.prog Good 166 [aO f, .int .i64 3, aY n].toArray [gx f e jv, ap e p S] fun v m => v = .tuple #[] ∧ ∃ U, Q U ∧ m = [gx f e jv, ap e p U] := by
 refine Does.body Tryz.func166 Z Z fun E fr hE => ?_
 refine aJ (At.seq (At.region (L.mv Z Z (L.nil (At.then (At.block (At.seq (At.region (L.pure Z (aH Z Z Z) (L.as Z Z (L.nil (At.then (aj Z (At.seq (At.region (L.pure Z (aH Z Z Z) (L.as Z Z (L.nil (At.then ?_)))))))))))))))))))
 refine aQ Z (At.region (L.mv Z Z (aR Z Z (aI 0 Z Z Z (bd Z Z Z Z (L.mv Z Z ?_))))))
 refine L.op Z (ah Z Z Z hE hC (Ent.sel (.tail .head)) ?_)
 rintro v m ⟨-, U, hU, rfl⟩
 exact ai (L.nil (an (bm [gx f e jv, ap e p U] rfl ⟨rfl, U, hU, rfl⟩ (Ent.sel (.tail .head)))))
theorem rY {p : EA} (hC : Does Tryz.prog Good 207 [aO e, aY n].toArray [ap e p S] fun v m => (v = .tuple #[]) ∧ ∃ U, Q U ∧ m = [ap e p U]) : Does Tryz.prog Good 166 [aO f, .int .i64 4, aY n].toArray [gx f e jv, ap e p S] fun v m => v = .tuple #[] ∧ ∃ U, Q U ∧ m = [gx f e jv, ap e p U] := by
 refine Does.body Tryz.func166 Z Z fun E fr hE => ?_
 refine aJ (At.seq (At.region (L.mv Z Z (L.nil (At.then (At.block (At.seq (At.region (L.pure Z (aH Z Z Z) (L.as Z Z (L.nil (At.then (aj Z (At.seq (At.region (L.pure Z (aH Z Z Z) (L.as Z Z (L.nil (At.then ?_)))))))))))))))))))
 refine aj Z (At.seq (At.region (L.pure Z (aH Z Z Z) (L.as Z Z (L.nil (At.then (aQ Z (At.region (L.mv Z Z (aR Z Z (aI 0 Z Z Z (bd Z Z Z Z (L.mv Z Z ?_)))))))))))))
 refine L.op Z (ah Z Z Z hE hC (Ent.sel (.tail .head)) ?_)
 rintro v m ⟨-, U, hU, rfl⟩
 exact ai (L.nil (an (bm [gx f e jv, ap e p U] rfl ⟨rfl, U, hU, rfl⟩ (Ent.sel (.tail .head)))))
theorem rX {p : EA} (hC : Does Tryz.prog Good 208 [aO e, aY n].toArray [ap e p S] fun v m => (v = .tuple #[]) ∧ ∃ U, Q U ∧ m = [ap e p U]) : Does Tryz.prog Good 166 [aO f, .int .i64 5, aY n].toArray [gx f e jv, ap e p S] fun v m => v = .tuple #[] ∧ ∃ U, Q U ∧ m = [gx f e jv, ap e p U] := by
 refine Does.body Tryz.func166 Z Z fun E fr hE => ?_
 refine aJ (At.seq (At.region (L.mv Z Z (L.nil (At.then (At.block (At.seq (At.region (L.pure Z (aH Z Z Z) (L.as Z Z (L.nil (At.then (aj Z (At.seq (At.region (L.pure Z (aH Z Z Z) (L.as Z Z (L.nil (At.then ?_)))))))))))))))))))
 refine aj Z (At.seq (At.region (L.pure Z (aH Z Z Z) (L.as Z Z (L.nil (At.then (aj Z (At.seq (At.region (L.pure Z (aH Z Z Z) (L.as Z Z (L.nil (At.then (aQ Z (At.region (L.mv Z Z (aR Z Z (aI 0 Z Z Z (bd Z Z Z Z ?_)))))))))))))))))))
 refine L.mv Z Z ?_
 refine L.op Z (ah Z Z Z hE hC (Ent.sel (.tail .head)) ?_)
 rintro v m ⟨-, U, hU, rfl⟩
 exact ai (L.nil (an (bm [gx f e jv, ap e p U] rfl ⟨rfl, U, hU, rfl⟩ (Ent.sel (.tail .head)))))
theorem zP {p : EA} (hC : Does Tryz.prog Good 209 [aO e, aY n].toArray [ap e p S] fun v m => (v = .tuple #[]) ∧ ∃ U, Q U ∧ m = [ap e p U]) : Does Tryz.prog Good 166 [aO f, .int .i64 6, aY n].toArray [gx f e jv, ap e p S] fun v m => v = .tuple #[] ∧ ∃ U, Q U ∧ m = [gx f e jv, ap e p U] := by
 refine Does.body Tryz.func166 Z Z fun E fr hE => ?_
 refine aJ (At.seq (At.region (L.mv Z Z (L.nil (At.then (At.block (At.seq (At.region (L.pure Z (aH Z Z Z) (L.as Z Z (L.nil (At.then (aj Z (At.seq (At.region (L.pure Z (aH Z Z Z) (L.as Z Z (L.nil (At.then ?_)))))))))))))))))))
 refine aj Z (At.seq (At.region (L.pure Z (aH Z Z Z) (L.as Z Z (L.nil (At.then (aj Z (At.seq (At.region (L.pure Z (aH Z Z Z) (L.as Z Z (L.nil (At.then (aj Z (At.seq (At.region (L.pure Z (aH Z Z Z) (L.as Z Z (L.nil ?_)))))))))))))))))))
 refine At.then (aQ Z (At.region (L.mv Z Z (aR Z Z (aI 0 Z Z Z (bd Z Z Z Z (L.mv Z Z ?_)))))))
 refine L.op Z (ah Z Z Z hE hC (Ent.sel (.tail .head)) ?_)
 rintro v m ⟨-, U, hU, rfl⟩
 exact ai (L.nil (an (bm [gx f e jv, ap e p U] rfl ⟨rfl, U, hU, rfl⟩ (Ent.sel (.tail .head)))))
theorem rW {p : EA} (hC : Does Tryz.prog Good 210 [aO e, aY n].toArray [ap e p S] fun v m => (v = .tuple #[]) ∧ ∃ U, Q U ∧ m = [ap e p U]) : Does Tryz.prog Good 166 [aO f, .int .i64 7, aY n].toArray [gx f e jv, ap e p S] fun v m => v = .tuple #[] ∧ ∃ U, Q U ∧ m = [gx f e jv, ap e p U] := by
 refine Does.body Tryz.func166 Z Z fun E fr hE => ?_
 refine aJ (At.seq (At.region (L.mv Z Z (L.nil (At.then (At.block (At.seq (At.region (L.pure Z (aH Z Z Z) (L.as Z Z (L.nil (At.then (aj Z (At.seq (At.region (L.pure Z (aH Z Z Z) (L.as Z Z (L.nil (At.then ?_)))))))))))))))))))
 refine aj Z (At.seq (At.region (L.pure Z (aH Z Z Z) (L.as Z Z (L.nil (At.then (aj Z (At.seq (At.region (L.pure Z (aH Z Z Z) (L.as Z Z (L.nil (At.then (aj Z (At.seq (At.region (L.pure Z (aH Z Z Z) (L.as Z Z (L.nil ?_)))))))))))))))))))
 refine At.then (aj Z (At.seq (At.region (L.pure Z (aH Z Z Z) (L.as Z Z (L.nil (At.then (aQ Z (At.region (L.mv Z Z (aR Z Z (aI 0 Z Z Z (bd Z Z Z Z (L.mv Z Z ?_))))))))))))))
 refine L.op Z (ah Z Z Z hE hC (Ent.sel (.tail .head)) ?_)
 rintro v m ⟨-, U, hU, rfl⟩
 exact ai (L.nil (an (bm [gx f e jv, ap e p U] rfl ⟨rfl, U, hU, rfl⟩ (Ent.sel (.tail .head)))))
theorem zO {p : EA} (hC : Does Tryz.prog Good 211 [aO e, aY n].toArray [ap e p S] fun v m => (v = .tuple #[]) ∧ ∃ U, Q U ∧ m = [ap e p U]) : Does Tryz.prog Good 166 [aO f, .int .i64 8, aY n].toArray [gx f e jv, ap e p S] fun v m => v = .tuple #[] ∧ ∃ U, Q U ∧ m = [gx f e jv, ap e p U] := by
 refine Does.body Tryz.func166 Z Z fun E fr hE => ?_
 refine aJ (At.seq (At.region (L.mv Z Z (L.nil (At.then (At.block (At.seq (At.region (L.pure Z (aH Z Z Z) (L.as Z Z (L.nil (At.then (aj Z (At.seq (At.region (L.pure Z (aH Z Z Z) (L.as Z Z (L.nil (At.then ?_)))))))))))))))))))
 refine aj Z (At.seq (At.region (L.pure Z (aH Z Z Z) (L.as Z Z (L.nil (At.then (aj Z (At.seq (At.region (L.pure Z (aH Z Z Z) (L.as Z Z (L.nil (At.then (aj Z (At.seq (At.region (L.pure Z (aH Z Z Z) (L.as Z Z (L.nil ?_)))))))))))))))))))
 refine At.then (aj Z (At.seq (At.region (L.pure Z (aH Z Z Z) (L.as Z Z (L.nil (At.then (aj Z (At.seq (At.region (L.pure Z (aH Z Z Z) (L.as Z Z (L.nil (At.then (aQ Z (At.region (L.mv Z Z (aR Z Z (aI 0 Z Z Z ?_)))))))))))))))))))
 refine bd Z Z Z Z (L.mv Z Z ?_)
 refine L.op Z (ah Z Z Z hE hC (Ent.sel (.tail .head)) ?_)
 rintro v m ⟨-, U, hU, rfl⟩
 exact ai (L.nil (an (bm [gx f e jv, ap e p U] rfl ⟨rfl, U, hU, rfl⟩ (Ent.sel (.tail .head)))))
def CallPost (f e j d : Nat) (p : EA) (S : FK.En) (J : FK.Jn) (σ : FK.Dsk) (op n : Nat) (Q : FK.En → Prop) (v : Value) (m : List HP) : Prop :=
 v = ef (J.add σ (dr (FK.frame (FK.aV op n)))).2.2 ∧ ∃ U, ((J.add σ (dr (FK.frame (FK.aV op n)))).2.2 = 0 → Q U) ∧ ((J.add σ (dr (FK.frame (FK.aV op n)))).2.2 ≠ 0 → U = S) ∧ m = [cD f e j, ap e p U, au j d (J.add σ (dr (FK.frame (FK.aV op n)))).1, ak d (J.add σ (dr (FK.frame (FK.aV op n)))).2.1]
theorem kv {j d : Nat} {p : EA} {op : Nat} (hop : op < 256) (hn : n < 18446744073709551616) (hJ : J.n < 1000000) (hr : Roomy σ)
 (hD : Does Tryz.prog Good 166 [aO f, .int .i64 op, aY n].toArray [cD f e j, ap e p S] fun v m => v = .tuple #[] ∧ ∃ U, Q U ∧ m = [cD f e j, ap e p U]) : Does Tryz.prog Good 104 [aO f, .int .i64 op, aY n].toArray [cD f e j, ap e p S, au j d J, ak d σ] (CallPost f e j d p S J σ op n Q) := by
 refine Does.body Tryz.func104 Z Z fun E fr hE => ?_
 refine cB (At.seq (At.region (L.as Z Z (L.nil (At.then (At.seq (At.region (L.mv Z Z (L.mv Z Z (L.mv Z Z ?_))))))))))
 refine L.op Z (ah Z Z Z hE (pC (e := e) (j := j) hop hn hJ hr) (Ent.cons (aP (.tail .head) (.tail .head))) ?_)
 rintro v m ⟨hv, rfl⟩
 refine cE ?_
 generalize hω : J.add σ (dr (FK.frame (FK.aV op n))) = ω at hv ⊢
 refine L.as Z Z (L.nil (At.then (At.seq (At.seq ?_))))
 by_cases HE : ω.2.2 = 0
 ·
  replace hv := hv.trans (if_pos HE)
  subst hv
  refine At.region (L.mv Z Z (L.pure Z (im Z Z) (L.nil (At.then (aQ Z (At.region (L.mv Z Z (L.mv Z Z (L.mv Z Z ?_)))))))))
  refine L.op Z (ah Z Z Z hE hD (Ent.cons (Ent.sel (.tail (.tail .head)))) ?_)
  rintro v m ⟨rfl, U, hU, rfl⟩
  refine aJ (L.nil (At.then (At.seq (At.region (L.mv Z Z (L.as Z Z (L.nil (At.then (At.ret ?_)))))))))
  exact aA [cD f e j, ap e p U, au j d ω.1, ak d ω.2.1] rfl Z (by unfold CallPost; rw [hω]; exact ⟨(if_pos HE).symm, U, fun _ => hU, fun h => absurd HE h, rfl⟩) (Ent.refl _)
 ·
  replace hv := hv.trans (if_neg HE)
  subst hv
  refine At.region (L.mv Z Z (L.pure Z (cz Z Z) (L.nil (At.then (aj Z (At.skip (At.then (At.seq (At.region (L.mv Z Z (L.as Z Z (L.nil (At.then (At.ret ?_))))))))))))))
  exact aA [cD f e j, ap e p S, au j d ω.1, ak d ω.2.1] rfl Z (by unfold CallPost; rw [hω]; exact ⟨(if_neg HE).symm, S, fun h => absurd h HE, fun _ => rfl, rfl⟩) (Ent.cons (Ent.sel (.tail (.tail .head))))
end
end Go.Proofs.YtmeegfamopaljaaGreatDoor

set_option maxRecDepth 10000
namespace Go.Proofs.YtmeegfamopaljaaGreatDoor
open Go Go.RowKit Go.SL
variable {G : Env → Prop}
theorem xo {k : Nat} (h0 : 0 < k) (hm : k ≤ 1099511627776) : Does Tryz.prog G 157 [.slice none 0 0, .int .i64 k].toArray [] fun v m => m = [bO v []] := by
 refine Does.body Tryz.func157 Z Z fun E fr hE => ?_
 refine aL (At.seq (At.region (L.as Z Z (L.nil (At.then (At.seq (At.seq (At.region (L.mv Z Z (L.pure Z (bl (r := false) Z Z (by simp)) (L.nil (At.then (aj Z (At.skip (At.then (At.seq (At.seq (At.region (L.mv Z Z ?_)))))))))))))))))))
 refine L.mv Z Z (L.pure Z (vQ Z Z) (L.mv Z Z (L.pure Z (aM Z Z) (L.pure Z (eu (r := 0) Z Z (by decide)) (L.pure Z (eu (r := (k : Int)) Z Z (by rw [dd (by omega)]; omega)) (L.as Z Z (L.nil (At.then (At.seq (At.region (L.mv Z Z (L.pure Z (cG (r := true) Z Z (by simp; omega)) (L.nil (At.then (aQ Z (At.region (L.mv Z Z (L.mv Z Z (L.pure Z (vQ Z Z) ?_)))))))))))))))))))
 refine L.pure Z (evAs (v' := .slice none 0 0) (dc (z := 1) (a := 0) (b := 0) Z Z Z Z ⟨_, rfl⟩ (Nat.le_refl _) (Nat.le_refl _)) Z) (L.mv Z Z ?_)
 refine L.op Z (Cf Z Z Z ia Z Z Z h0 (by unfold maxLen; omega) (by omega) fun b22 cap22 hc22 => ?_)
 exact L.mv Z Z (L.pure Z (aM Z Z) (L.pure Z (evAs (v' := .slice (some ⟨b22, 0, none⟩) 0 cap22) (dc (z := 1) (a := 0) (b := 0) Z Z Z Z ⟨_, rfl⟩ (Nat.le_refl _) (Nat.zero_le _)) (by simp only [Nat.sub_zero]; split <;> rfl)) (L.as Z Z (L.nil (At.then (At.seq (At.region (L.mv Z Z (L.as Z Z (L.nil (At.then (At.ret (aA [_] rfl Z Z (Ent.refl _))))))))))))))
def fh (a b : List UInt8) (k : Nat) : List UInt8 := if k = 0 then [] else if k = 1 then a else a ++ b
set_option maxHeartbeats 1000000 in
theorem tu {g : Nat} {A1 A2 : Option Addr} {bs1 bs2 : List UInt8} {p1 p2 : HP} (c1 c2 : Nat) (hp1 : Reads p1 A1 bs1) (hA1 : A1 = none → bs1 = []) (hp2 : Reads p2 A2 bs2) (hA2 : A2 = none → bs2 = []) (h0 : 0 < bs1.length + bs2.length) (hl : bs1.length + bs2.length ≤ 1099511627776) :
 Does Tryz.prog G 96 [.slice (some ⟨g, 0, none⟩) 2 2].toArray [blk g 47 #[.slice A1 bs1.length c1, .slice A2 bs2.length c2], p1, p2] fun v m => m = [bO v (bs1 ++ bs2), p1, p2] := by
 refine Does.body Tryz.func96 Z Z fun E fr hE => ?_
 refine cE (At.seq (At.region (L.as Z Z (L.nil (At.then (At.seq (At.region (L.as Z Z (L.nil (At.then (At.seq (At.seq (At.region (L.mv Z Z (L.pure Z (aM Z Z) (L.mv Z Z (L.nil (At.then (At.block ?_)))))))))))))))))))
 refine bk (X := Nat) (fun k => [(11, .int .i64 k), (10, .int .i64 (2 : Nat)), (9, .slice (some ⟨g, 0, none⟩) 2 2), (3, .int .i64 (fh bs1 bs2 k).length), (0, .slice (some ⟨g, 0, none⟩) 2 2)]) (fun _ => blk g 47 #[.slice A1 bs1.length c1, .slice A2 bs2.length c2] :: p1 :: p2 :: fr) (fun k => k ≤ 2) (fun k => 2 - k) 0 (Nat.zero_le _) ⟨rfl, rfl, rfl, rfl, rfl, trivial⟩ (Ent.refl _) ?_
 intro k hk
 have hcl : (fh bs1 bs2 k).length ≤ bs1.length + bs2.length := by unfold fh; split; simp; split; omega; simp
 refine At.seq (At.region (L.pure Z (bl Z Z Z) (L.nil (At.then (At.seq ?_)))))
 refine aE Z (fun c12 => ?_) (fun c12 => ?_)
 ·
  have hlt : k < 2 := by have : (k : Int) < ((2 : Nat) : Int) := c12; omega
  refine At.skip (At.then (At.seq (At.block (At.seq ?_))))
  by_cases HK : k = 0
  ·
   subst HK
   refine At.region (L.pure Z (aT (z := 1) Z Z Z Z hlt) (bd Z Z Z Z (L.as Z Z (L.nil (At.then (At.seq (At.region (L.mv Z Z (L.mv Z Z (L.pure Z (aM Z Z) (L.pure Z (aS (r := ((fh bs1 bs2 1).length : Int)) Z Z (by simp only [fh]; simp; rw [dd (by omega)])) (L.as Z Z (L.nil (At.then (At.seq (At.region (L.mv Z Z (L.pure Z (bl (r := false) Z Z (by simp)) (L.nil ?_)))))))))))))))))))
   refine At.then (aj Z (At.skip (an (At.then (At.region (L.pure Z (aS (r := ((1 : Nat) : Int)) Z Z (by decide)) (L.mv Z Z (L.nil ?_))))))))
   exact At.round 1 (by omega) (by omega) ⟨rfl, rfl, rfl, rfl, rfl, trivial⟩ (Ent.refl _)
  ·
   obtain rfl : k = 1 := by omega
   refine At.region (L.pure Z (aT (z := 1) Z Z Z Z hlt) (bd Z Z Z Z (L.as Z Z (L.nil (At.then (At.seq (At.region (L.mv Z Z (L.mv Z Z (L.pure Z (aM Z Z) (L.pure Z (aS (r := ((fh bs1 bs2 2).length : Int)) Z Z (by simp only [fh]; simp; rw [dd (by omega)])) (L.as Z Z (L.nil (At.then (At.seq (At.region (L.mv Z Z (L.pure Z (bl (r := false) Z Z (by simp)) (L.nil ?_)))))))))))))))))))
   refine At.then (aj Z (At.skip (an (At.then (At.region (L.pure Z (aS (r := ((2 : Nat) : Int)) Z Z (by decide)) (L.mv Z Z (L.nil ?_))))))))
   exact At.round 2 (by omega) (by omega) ⟨rfl, rfl, rfl, rfl, rfl, trivial⟩ (Ent.refl _)
 ·
  obtain rfl : k = 2 := by have : ¬ (k : Int) < ((2 : Nat) : Int) := c12; omega
  have h2 : fh bs1 bs2 2 = bs1 ++ bs2 := rfl
  refine At.exit (az (ay (ar (At.then (At.seq (At.region (L.mv Z Z ?_)))))))
  refine L.op Z (ah Z Z Z hE (xo (k := (fh bs1 bs2 2).length) (by rw [h2, List.length_append]; exact h0) (by omega)) (Ent.refl _) ?_)
  rintro v m rfl
  refine ai (L.as Z Z (L.nil (At.then (At.seq (At.seq (At.region (L.mv Z Z (L.pure Z (aM Z Z) (L.mv Z Z (L.nil (At.then (At.block ?_))))))))))))
  refine bk (X := Nat × Value) (fun x => [(27, .int .i64 x.1), (26, .int .i64 (2 : Nat)), (25, .slice (some ⟨g, 0, none⟩) 2 2), (6, x.2)]) (fun x => bO x.2 (fh bs1 bs2 x.1) :: blk g 47 #[.slice A1 bs1.length c1, .slice A2 bs2.length c2] :: p1 :: p2 :: fr) (fun x => x.1 ≤ 2) (fun x => 2 - x.1) (0, v) (Nat.zero_le _) ⟨rfl, rfl, rfl, rfl, trivial⟩ (Ent.refl _) ?_
  rintro ⟨k, u⟩ hk
  replace hk : k ≤ 2 := hk
  refine At.ent (l' := bO u (fh bs1 bs2 k) :: blk g 47 #[.slice A1 bs1.length c1, .slice A2 bs2.length c2] :: p1 :: p2 :: fr) (Ent.refl _) ?_
  refine At.seq (At.region (L.pure Z (bl Z Z Z) (L.nil (At.then (At.seq ?_)))))
  refine aE Z (fun c28 => ?_) (fun c28 => ?_)
  ·
   have hlt : k < 2 := by have : (k : Int) < ((2 : Nat) : Int) := c28; omega
   refine At.skip (At.then (At.seq (At.block (At.seq ?_))))
   by_cases HM : k = 0
   ·
    subst HM
    refine At.region (L.pure Z (aT (z := 1) Z Z Z Z hlt) (bd Z Z Z Z (L.as Z Z (L.nil (At.then (At.region (L.mv Z Z (L.mv Z Z ?_))))))))
    refine L.op rfl (cm rfl rfl ia rfl (by omega) rfl rfl (HasVal.sel (v := u)) (news := bR bs1) (by rw [iI]; omega) (fun h => by rw [hA1 h]; rfl) (Reads.src hp1 (.tail (.tail .head))) (by intro u hu; obtain ⟨x, _, rfl⟩ := List.mem_map.1 hu; rfl) (by unfold maxLen; simp [fh]; omega) (by simp [fh]; omega) fun u2 hu2 => ?_)
    refine L.as Z Z (L.nil (an (At.then (At.region (L.pure Z (aS (r := ((1 : Nat) : Int)) Z Z Z) (L.mv Z Z (L.nil (At.round (1, u2) (by show 1 ≤ 2; omega) (by show 2 - 1 < 2 - 0; omega) ⟨rfl, rfl, rfl, rfl, trivial⟩ ?_))))))))
    show Ent (row 5 1 u2 (0 + bs1.length) ([] ++ bR bs1) :: _) (row 5 1 u2 bs1.length (bR bs1) :: _)
    rw [Nat.zero_add, List.nil_append]
    exact Ent.refl _
   ·
    obtain rfl : k = 1 := by omega
    refine At.region (L.pure Z (aT (z := 1) Z Z Z Z hlt) (bd Z Z Z Z (L.as Z Z (L.nil (At.then (At.region (L.mv Z Z (L.mv Z Z ?_))))))))
    refine L.op rfl (cm rfl rfl ia rfl (by omega) rfl rfl (HasVal.sel (v := u)) (news := bR bs2) (by rw [iI]; omega) (fun h => by rw [hA2 h]; rfl) (Reads.src hp2 (.tail (.tail (.tail .head)))) (by intro u hu; obtain ⟨x, _, rfl⟩ := List.mem_map.1 hu; rfl) (by unfold maxLen; simp [fh]; omega) (by simp [fh]; omega) fun u2 hu2 => ?_)
    refine L.as Z Z (L.nil (an (At.then (At.region (L.pure Z (aS (r := ((2 : Nat) : Int)) Z Z Z) (L.mv Z Z (L.nil (At.round (2, u2) (by show 2 ≤ 2; omega) (by show 2 - 2 < 2 - 1; omega) ⟨rfl, rfl, rfl, rfl, trivial⟩ ?_))))))))
    show Ent (row 5 1 u2 (bs1.length + bs2.length) (bR bs1 ++ bR bs2) :: _) (row 5 1 u2 (bs1 ++ bs2).length (bR (bs1 ++ bs2)) :: _)
    rw [List.length_append, ga]
    exact Ent.refl _
  ·
   obtain rfl : k = 2 := by have : ¬ (k : Int) < ((2 : Nat) : Int) := c28; omega
   exact At.exit (az (ay (ar (At.then (At.seq (At.region (L.mv Z Z (L.as Z Z (L.nil (At.then (At.ret (aA [bO u (bs1 ++ bs2), p1, p2] rfl Z Z (Ent.cons Ent.drop)))))))))))))
end Go.Proofs.YtmeegfamopaljaaGreatDoor

set_option maxRecDepth 10000
namespace Go.Proofs.YtmeegfamopaljaaGreatDoor
open Go Go.RowKit Go.SL
abbrev cd (f e j d : Nat) (p : EA) (S : FK.En) (J : FK.Jn) (σ : FK.Dsk) : List HP := [cD f e j, ap e p S, au j d J, ak d σ]
section
variable {S : FK.En} {σ : FK.Dsk} {J : FK.Jn} {d e f j t : Nat} {P : FK.Pl} {R : FK.Rn}
theorem kO {p : EA} {op : Nat} (ht : S.CI.any (·.1 == t) = false) : Does Tryz.prog Good 102 [aO f, .int .i64 op, aY t].toArray (cd f e j d p S J σ) fun v m => v = ef 7 ∧ m = cd f e j d p S J σ := by
 refine Does.body Tryz.func102 Z Z fun E fr hE => ?_
 refine cB (At.seq (At.region (L.as Z Z (L.nil (At.then (At.seq (At.seq (At.region (L.mv Z Z (aR Z Z (aI 0 Z Z Z (bd Z Z Z Z (L.mv Z Z ?_)))))))))))))
 refine L.op Z (ah Z Z Z hE (n8 t) (Ent.sel (.tail .head)) ?_)
 rintro v m ⟨rfl, rfl⟩
 refine ai ?_
 rw [ht]
 exact L.pure Z (cg Z Z) (L.nil (At.then (aQ Z (At.seq (At.region (L.pure Z (cO Z Z Z) (L.as Z Z (L.nil (At.then (At.ret (aG (aA (cd f e j d p S J σ) Z Z ⟨rfl, rfl⟩ (Ent.sel (.tail .head))))))))))))))
theorem kN {p : EA} {op : Nat} {Q : FK.En → Prop} (ht : S.CI.any (·.1 == t) = true) (hC : Does Tryz.prog Good 104 [aO f, .int .i64 op, aY t].toArray (cd f e j d p S J σ) (CallPost f e j d p S J σ op t Q)) : Does Tryz.prog Good 102 [aO f, .int .i64 op, aY t].toArray (cd f e j d p S J σ) (CallPost f e j d p S J σ op t Q) := by
 refine Does.body Tryz.func102 Z Z fun E fr hE => ?_
 refine cB (At.seq (At.region (L.as Z Z (L.nil (At.then (At.seq (At.seq (At.region (L.mv Z Z (aR Z Z (aI 0 Z Z Z (bd Z Z Z Z (L.mv Z Z ?_)))))))))))))
 refine L.op Z (ah Z Z Z hE (n8 t) (Ent.sel (.tail .head)) ?_)
 rintro v m ⟨rfl, rfl⟩
 refine ai ?_
 rw [ht]
 refine L.pure Z (cg Z Z) (L.nil (At.then (aj Z (At.skip (At.then (At.seq (At.region (L.mv Z Z (L.mv Z Z (L.mv Z Z ?_))))))))))
 refine L.op Z (ah Z Z Z hE hC (Ent.sel (.tail .head)) ?_)
 rintro v m hv
 exact L.as Z Z (L.nil (At.then (At.ret (aA m Z Z hv (Ent.refl _)))))
theorem n0 (h : (S.CI.find? (·.1 == t)).map (·.2) = some P) : S.CI.any (·.1 == t) = true := by
 cases hf : S.CI.find? (·.1 == t) with
 | none => rw [hf] at h; cases h
 | some x => exact List.any_eq_true.2 ⟨x, List.mem_of_find?_eq_some hf, List.find?_some (p := fun x : Nat × FK.Pl => x.1 == t) hf⟩
theorem m0 {p : EA} (ht : S.CI.any (·.1 == t) = false) : Does Tryz.prog Good 56 [aO f, aY t].toArray (cd f e j d p S J σ) fun v m => v = ef 7 ∧ m = cd f e j d p S J σ := by
 refine Does.body Tryz.func56 Z Z fun E fr hE => ?_
 refine cB (At.seq (At.region (L.as Z Z (L.nil (At.then (At.seq (At.region (L.mv Z Z (L.mv Z Z ?_)))))))))
 refine L.op Z (ah Z Z Z hE (kO (op := 4) ht) (Ent.refl _) ?_)
 rintro v m ⟨rfl, rfl⟩
 exact cB (L.as Z Z (L.nil (At.then (At.ret (aA (cd f e j d p S J σ) Z Z ⟨rfl, rfl⟩ (Ent.refl _))))))
theorem mZ {p : EA} (h : FK.Ok S) (hn : t < 18446744073709551616) (hJ : J.n < 1000000) (hr : Roomy σ) (ht : (S.CI.find? (·.1 == t)).map (·.2) = some P) (hends : S.ends < 9223372036854775807) : Does Tryz.prog Good 56 [aO f, aY t].toArray (cd f e j d p S J σ) (CallPost f e j d p S J σ 4 t fun U => U = S.complete t) := by
 refine Does.body Tryz.func56 Z Z fun E fr hE => ?_
 refine cB (At.seq (At.region (L.as Z Z (L.nil (At.then (At.seq (At.region (L.mv Z Z (L.mv Z Z ?_)))))))))
 refine L.op Z (ah Z Z Z hE (kN (op := 4) (Q := fun U => U = S.complete t) (n0 ht) (kv (op := 4) (by omega) hn hJ hr (rY ((mR h ht hends).mono fun v m hv => ⟨m, ⟨hv.1, _, rfl, hv.2⟩, Ent.refl _⟩)))) (Ent.refl _) ?_)
 rintro v m hv
 exact L.as Z Z (L.nil (At.then (At.ret (aA m Z Z hv (Ent.refl _)))))
theorem s8 {p : EA} (ht : S.CI.any (·.1 == t) = false) : Does Tryz.prog Good 57 [aO f, aY t].toArray (cd f e j d p S J σ) fun v m => v = ef 7 ∧ m = cd f e j d p S J σ := by
 refine Does.body Tryz.func57 Z Z fun E fr hE => ?_
 refine cB (At.seq (At.region (L.as Z Z (L.nil (At.then (At.seq (At.region (L.mv Z Z (L.mv Z Z ?_)))))))))
 refine L.op Z (ah Z Z Z hE (kO (op := 5) ht) (Ent.refl _) ?_)
 rintro v m ⟨rfl, rfl⟩
 exact cB (L.as Z Z (L.nil (At.then (At.ret (aA (cd f e j d p S J σ) Z Z ⟨rfl, rfl⟩ (Ent.refl _))))))
theorem s7 {p : EA} (h : FK.Ok S) (hn : t < 18446744073709551616) (hJ : J.n < 1000000) (hr : Roomy σ) (ht : (S.CI.find? (·.1 == t)).map (·.2) = some P) (hsets : S.sets + 1 < 9223372036854775807) (hends : S.ends < 9223372036854775807) : Does Tryz.prog Good 57 [aO f, aY t].toArray (cd f e j d p S J σ) (CallPost f e j d p S J σ 5 t fun U => U = S.fail t) := by
 refine Does.body Tryz.func57 Z Z fun E fr hE => ?_
 refine cB (At.seq (At.region (L.as Z Z (L.nil (At.then (At.seq (At.region (L.mv Z Z (L.mv Z Z ?_)))))))))
 refine L.op Z (ah Z Z Z hE (kN (op := 5) (Q := fun U => U = S.fail t) (n0 ht) (kv (op := 5) (by omega) hn hJ hr (rX ((vN h ht hsets hends).mono fun v m hv => ⟨m, ⟨hv.1, _, rfl, hv.2⟩, Ent.refl _⟩)))) (Ent.refl _) ?_)
 rintro v m hv
 exact L.as Z Z (L.nil (At.then (At.ret (aA m Z Z hv (Ent.refl _)))))
theorem uM {p : EA} {n : Nat} (h : FK.Ok S) (hn : n < 18446744073709551616) (hJ : J.n < 1000000) (hr : Roomy σ) (hsets : S.sets ≤ 4611686018427387904) (hends : S.ends ≤ 4611686018427387904) : Does Tryz.prog Good 59 [aO f, aY n].toArray (cd f e j d p S J σ) (CallPost f e j d p S J σ 7 n fun U => FK.Ticks (S.later n) S U) := by
 refine Does.body Tryz.func59 Z Z fun E fr hE => ?_
 refine cB (At.seq (At.region (L.as Z Z (L.nil (At.then (At.seq (At.region (L.mv Z Z (L.mv Z Z ?_)))))))))
 refine L.op Z (ah Z Z Z hE (kv (op := 7) (by omega) hn hJ hr (rW (vq h hn hsets hends))) (Ent.refl _) ?_)
 rintro v m hv
 exact L.as Z Z (L.nil (At.then (At.ret (aA m Z Z hv (Ent.refl _)))))
theorem sZ {p : EA} (hq : S.CH = []) : Does Tryz.prog Good 53 [aO f].toArray (cd f e j d p S J σ) fun v m => v = .tuple #[gc 0 0 0 0, .bool false, .nilIface] ∧ m = cd f e j d p S J σ := by
 refine Does.body Tryz.func53 Z Z fun E fr hE => ?_
 refine cB (At.seq (At.region (L.op Z (aN (z := .agg #[.int .u64 0, .int .i64 0, .int .i64 0, .int .u64 0]) Z Z fun b2 => (L.as Z Z (L.as Z Z (L.nil (At.then (At.seq (At.seq (At.region (L.mv Z Z (aR Z Z (aI 0 Z Z Z (bd Z Z Z Z ?_)))))))))))))))
 refine L.op Z (ah Z Z Z hE sb (Ent.sel (.tail (.tail .head))) ?_)
 rintro v m ⟨rfl, rfl⟩
 refine ai ?_
 rw [show decide (0 < S.CH.length) = false by rw [hq]; rfl]
 refine L.pure Z (cg Z Z) (L.nil (At.then (aQ Z (At.seq (At.region (L.pure Z (bn (ps := []) (vs := []) (cs := (bh 0 0 0 0).toArray) Z Z Z Z Z) ?_))))))
 refine L.op Z (aK Z (m := 4) (vs := bh 0 0 0 0) Z Z Z Z (by simp [Value.oneCell']) (by show 0 + 4 ≤ 4; omega) ?_)
 exact aD b2 (bh 0 0 0 0).toArray Z (L.as Z Z (L.as Z Z (L.nil (At.then (At.ret (aG (ir (cd f e j d p S J σ) Z (bZ (vs := bh 0 0 0 0) Z Z Z Z (aw Z)) (Res.tmp Z) (Res.tmp Z) ⟨rfl, rfl⟩ (Ent.drop.trans (Ent.sel (.tail .head))))))))))
def lB (f e j d : Nat) (p : EA) (S : FK.En) (J : FK.Jn) (σ : FK.Dsk) (id k : Nat) (q : List FK.Pl) (R : FK.Rn) (s : FK.Sp) (nd : FK.Node) (v : Value) (m : List HP) : Prop :=
 ((J.add σ (dr (FK.frame (FK.aV 2 0)))).2.2 = 0 ∧ v = .tuple #[gc id k (s.CE + 1) (S.CC + 1), .bool true, .nilIface] ∧ m = cd f e j d p (S.hand ⟨id, (k : Int), 0⟩ q R s nd) (J.add σ (dr (FK.frame (FK.aV 2 0)))).1 (J.add σ (dr (FK.frame (FK.aV 2 0)))).2.1) ∨
 ((J.add σ (dr (FK.frame (FK.aV 2 0)))).2.2 ≠ 0 ∧ v = .tuple #[gc 0 0 0 0, .bool false, ef (J.add σ (dr (FK.frame (FK.aV 2 0)))).2.2] ∧ m = cd f e j d p S (J.add σ (dr (FK.frame (FK.aV 2 0)))).1 (J.add σ (dr (FK.frame (FK.aV 2 0)))).2.1)
set_option maxHeartbeats 1000000 in
theorem sY {p : EA} (h : FK.Ok S) (hJ : J.n < 1000000) (hr : Roomy σ) {id k : Nat} {q : List FK.Pl} {s : FK.Sp} {nd : FK.Node} (hq : S.CH = ⟨id, (k : Int), 0⟩ :: q) (hR : S.getR id = some R) (hs : R.CF[k]? = some s) (hn : R.fl.CG[k]? = some nd) (hsets : S.sets + 1 < 9223372036854775807) (htok : S.CC < 9223372036854775807) : Does Tryz.prog Good 53 [aO f].toArray (cd f e j d p S J σ) (lB f e j d p S J σ id k q R s nd) := by
 refine Does.body Tryz.func53 Z Z fun E fr hE => ?_
 refine cB (At.seq (At.region (L.op Z (aN (z := .agg #[.int .u64 0, .int .i64 0, .int .i64 0, .int .u64 0]) Z Z fun b2 => (L.as Z Z (L.as Z Z (L.nil (At.then (At.seq (At.seq (At.region (L.mv Z Z (aR Z Z (aI 0 Z Z Z (bd Z Z Z Z ?_)))))))))))))))
 refine L.op Z (ah Z Z Z hE sb (Ent.sel (.tail (.tail .head))) ?_)
 rintro v m ⟨rfl, rfl⟩
 refine ai ?_
 rw [show decide (0 < S.CH.length) = true by rw [hq]; rfl]
 refine L.pure Z (cg Z Z) (L.nil (At.then (aj Z (At.skip (At.then (At.seq (At.seq (At.region (L.mv Z Z ?_)))))))))
 refine L.op Z (ah Z Z Z hE (pC (e := e) (j := j) (op := 2) (n := 0) (by omega) (by omega) hJ hr) (cc (.tail (.tail .head)) (.tail (.tail .head)) (.tail (.tail .head))) ?_)
 rintro v m ⟨hv, rfl⟩
 refine cE ?_
 generalize hω : J.add σ (dr (FK.frame (FK.aV 2 0))) = ω at hv ⊢
 refine L.as Z Z (L.nil (At.then (At.seq ?_)))
 by_cases HE : ω.2.2 = 0
 ·
  replace hv := hv.trans (if_pos HE)
  subst hv
  refine At.region (L.mv Z Z (L.pure Z (co Z Z) (L.nil (At.then (aj Z (At.skip (At.then (At.seq (At.region (L.mv Z Z (aR Z Z (aI 0 Z Z Z (bd Z Z Z Z ?_)))))))))))))
  refine L.op Z (ah Z Z Z hE (vy h hq hR hs hn hsets htok) (Ent.sel (.tail (.tail (.tail .head)))) ?_)
  rintro v m ⟨rfl, rfl⟩
  refine ai (L.mv Z Z (L.ex Z Z Z (L.ex Z Z Z (L.op Z (aN (z := .agg #[.int .u64 0, .int .i64 0, .int .i64 0, .int .u64 0]) Z Z fun b6 => ?_)))))
  refine L.op Z (aK Z (m := 4) (vs := bh id k (s.CE + 1) (S.CC + 1)) Z Z Z Z (by simp [Value.oneCell']) (by show 0 + 4 ≤ 4; omega) ?_)
  refine aD b6 (bh id k (s.CE + 1) (S.CC + 1)).toArray Z (L.as Z Z (L.nil (At.then (At.seq (At.region (L.val Z (ao (vs := bh id k (s.CE + 1) (S.CC + 1)) Z Z Z Z) (aw Z) (L.mv Z Z ?_)))))))
  refine L.op Z (aK Z (m := 4) (vs := bh id k (s.CE + 1) (S.CC + 1)) Z Z Z Z (by simp [Value.oneCell']) (by show 0 + 4 ≤ 4; omega) ?_)
  refine aD b2 (bh id k (s.CE + 1) (S.CC + 1)).toArray Z (L.as Z Z (L.as Z Z (L.nil (At.then (At.ret ?_)))))
  refine ir (cd f e j d p (S.hand ⟨id, (k : Int), 0⟩ q R s nd) ω.1 ω.2.1) Z (bZ (vs := bh id k (s.CE + 1) (S.CC + 1)) Z Z Z Z (aw Z)) (Res.tmp Z) (Res.tmp Z) (by unfold lB; rw [hω]; exact .inl ⟨HE, rfl, rfl⟩) ?_
  show Ent _ (cD f e j :: ap e p _ :: au j d ω.1 :: ak d ω.2.1 :: fr)
  exact al
 ·
  replace hv := hv.trans (if_neg HE)
  subst hv
  refine At.region (L.mv Z Z (L.pure Z (fv Z Z) (L.nil (At.then (aQ Z (At.seq (At.region (L.pure Z (bn (ps := []) (vs := []) (cs := (bh 0 0 0 0).toArray) Z Z Z Z Z) (L.mv Z Z ?_)))))))))
  refine L.op Z (aK Z (m := 4) (vs := bh 0 0 0 0) Z Z Z Z (by simp [Value.oneCell']) (by show 0 + 4 ≤ 4; omega) ?_)
  refine aD b2 (bh 0 0 0 0).toArray Z (L.as Z Z (L.as Z Z (L.nil (At.then (At.ret (aG ?_))))))
  refine ir (cd f e j d p S ω.1 ω.2.1) Z (bZ (vs := bh 0 0 0 0) Z Z Z Z (aw Z)) (Res.tmp Z) (Res.tmp Z) (by unfold lB; rw [hω]; exact .inr ⟨HE, by unfold ef; rw [if_neg HE], rfl⟩) ?_
  show Ent _ (cD f e j :: ap e p _ :: au j d ω.1 :: ak d ω.2.1 :: fr)
  exact al
theorem qX {p : EA} {id : Nat} (h : FK.Ok S) (hR : S.getR id = some R) : Does Tryz.prog Good 61 [aO f, aY id].toArray (cd f e j d p S J σ) fun v m => ∃ A2 c2 A3 c3, v = .tuple #[.agg (bG id R.state (.slice A2 R.CF.length c2) (.slice A3 R.CF.length c3)).toArray, .nilIface] ∧ m = aF (.slice A2 R.CF.length c2) (R.CF.map (·.state)) :: aF (.slice A3 R.CF.length c3) (R.CF.map (·.CE)) :: cd f e j d p S J σ := by
 have hlm : ∀ g : FK.Sp → Int, (R.CF.map g).length = R.CF.length := fun g => List.length_map _
 refine Does.body Tryz.func61 Z Z fun E fr hE => ?_
 refine cB (At.seq (At.region (L.op Z (aN (z := .agg #[.int .u64 0, .int .i64 0, .slice none 0 0, .slice none 0 0]) Z Z fun b4 => (L.as Z Z (L.nil (At.then (At.seq (At.region (L.mv Z Z (aR Z Z (aI 0 Z Z Z (bd Z Z Z Z (L.mv Z Z ?_))))))))))))))
 refine L.op Z (ah Z Z Z hE (yX h hR) (Ent.sel (.tail (.tail .head))) ?_)
 rintro v m ⟨v2, v3, rfl, rfl⟩
 refine cE (aC (HasVal.sel (v := v2)) ?_)
 rintro A2 c2 hv2 - - - - -
 refine aC (HasVal.sel (v := v3)) ?_
 rintro A3 c3 hv3 - - - - -
 rw [hlm] at hv2 hv3
 subst hv2; subst hv3
 refine L.mv Z Z (L.ex Z Z Z (L.ex Z Z Z (L.op Z (aN (z := .agg #[.int .u64 0, .int .i64 0, .slice none 0 0, .slice none 0 0]) Z Z fun b6 => ?_))))
 refine L.op Z (aK Z (m := 4) (vs := bG id R.state (.slice A2 R.CF.length c2) (.slice A3 R.CF.length c3)) Z Z Z Z (by simp [Value.oneCell']) (by show 0 + 4 ≤ 4; omega) ?_)
 refine aD b6 (bG id R.state (.slice A2 R.CF.length c2) (.slice A3 R.CF.length c3)).toArray Z (L.as Z Z (L.nil (At.then (At.seq (At.seq (At.region (L.mv Z Z (L.pure Z (cg Z Z) (L.nil (At.then (aj Z (At.skip (At.then (At.seq (At.region (L.val Z (ao (vs := bG id R.state (.slice A2 R.CF.length c2) (.slice A3 R.CF.length c3)) Z Z Z Z) (aw Z) ?_))))))))))))))))
 refine L.op Z (aK Z (m := 4) (vs := bG id R.state (.slice A2 R.CF.length c2) (.slice A3 R.CF.length c3)) Z Z Z Z (by simp [Value.oneCell']) (by show 0 + 4 ≤ 4; omega) ?_)
 refine aD b4 (bG id R.state (.slice A2 R.CF.length c2) (.slice A3 R.CF.length c3)).toArray Z (L.as Z Z (L.nil (At.then (At.ret ?_))))
 refine fe (aF (.slice A2 R.CF.length c2) (R.CF.map (·.state)) :: aF (.slice A3 R.CF.length c3) (R.CF.map (·.CE)) :: cd f e j d p S J σ) Z (bZ (vs := bG id R.state (.slice A2 R.CF.length c2) (.slice A3 R.CF.length c3)) Z Z Z Z (aw Z)) (Res.tmp Z) ⟨A2, c2, A3, c3, rfl, rfl⟩ ?_
 show Ent _ (aF _ _ :: aF _ _ :: cD f e j :: ap e p _ :: au j d J :: ak d σ :: fr)
 exact al
end
end Go.Proofs.YtmeegfamopaljaaGreatDoor

set_option maxHeartbeats 1000000
namespace Go.Proofs.YtmeegfamopaljaaGreatDoor
open Go Go.RowKit Go.Deep
def ErrAt (w : World) (base : Nat) (v : Value) (p : Int × Int) : Prop :=
 (p.1 = 0 ∧ v = .nilIface) ∨ (p.1 ≠ 0 ∧ ∃ b, v = .iface 159 (.pointer (some ⟨b, 0, none⟩)) ∧ base ≤ b ∧ Blk w b 164 #[.int .i64 p.1, .int .i64 p.2])
theorem ErrAt.made {w : World} {base : Nat} {p : Int × Int} (hp : p.1 ≠ 0) (hb : base ≤ w.heap.size) :
 ErrAt (w.alloc (.cells #[.int .i64 p.1, .int .i64 p.2] 164)) base (.iface 159 (.pointer (some ⟨w.heap.size, 0, none⟩))) p :=
 .inr ⟨hp, _, rfl, hb, Blk.made _ _ _⟩
theorem ErrAt.keep {w w' : World} {base : Nat} {v : Value} {p : Int × Int} (h : ErrAt w base v p) (hs : ∀ b, base ≤ b → b < w.heap.size → w'.heap[b]? = w.heap[b]?) : ErrAt w' base v p := by
 rcases h with h | ⟨hp, b, hv, hb, hk⟩
 · exact .inl h
 · exact .inr ⟨hp, b, hv, hb, (hs b hb hk.lt).trans hk⟩
theorem jN (n low : Int) (w : World) (h1 : low ≤ n) (h2 : n ≤ 1048576) :
 Calls Tryz.prog 138 #[.int .i64 n, .int .i64 low] w fun e w' => e = .returned (.bool true) ∧ w = w' := by
 go_enter Tryz.func138, Tryz.ntmps138
 go_wp2
 go_ret
 exact ⟨rfl, rfl⟩
theorem vr (n low : Int) (w : World) (h : n < low ∨ 1048576 < n) :
 Calls Tryz.prog 138 #[.int .i64 n, .int .i64 low] w fun e w' => e = .returned (.bool false) ∧ w = w' := by
 by_cases hl : low ≤ n
 · have h2 : decide (n ≤ 1048576) = false := by simp; omega
   clear h
   go_enter Tryz.func138, Tryz.ntmps138
   go_wp2
   go_ret
   exact ⟨rfl, rfl⟩
 · have h2 : n < low := by omega
   clear h
   go_enter Tryz.func138, Tryz.ntmps138
   go_wp2
   go_ret
   exact ⟨rfl, rfl⟩
theorem eG (e a : Int) (w : World) :
 Calls Tryz.prog 137 #[.int .i64 e, .int .i64 a] w fun en w' => en = .returned (.iface 159 (.pointer (some ⟨w.heap.size, 0, none⟩))) ∧ w.alloc (.cells #[.int .i64 e, .int .i64 a] 164) = w' := by
 go_enter Tryz.func137, Tryz.ntmps137
 go_wp2
 go_ret
 exact ⟨rfl, rfl⟩
theorem uu (k : Int) (w : World) :
 Calls Tryz.prog 140 #[.int .i64 k] w fun en w' => en = .returned (.tuple #[]) ∧ w = w' := by
 go_enter Tryz.func140, Tryz.ntmps140
 go_wp2
 go_end0
 exact ⟨rfl, rfl⟩
theorem ut {n : FK.Node} (h : ¬ FK.cM n) :
 n.CJ < 1 ∨ (1 ≤ n.CJ ∧ 5 < n.CJ) ∨ ((1 ≤ n.CJ ∧ n.CJ ≤ 5) ∧ (n.close < 1 ∨ 1048576 < n.close)) ∨
 ((1 ≤ n.CJ ∧ n.CJ ≤ 5) ∧ (1 ≤ n.close ∧ n.close ≤ 1048576) ∧ (n.beat < 0 ∨ 1048576 < n.beat)) ∨
 ((1 ≤ n.CJ ∧ n.CJ ≤ 5) ∧ (1 ≤ n.close ∧ n.close ≤ 1048576) ∧ (0 ≤ n.beat ∧ n.beat ≤ 1048576) ∧ (n.base < 1 ∨ 1048576 < n.base)) ∨
 ((1 ≤ n.CJ ∧ n.CJ ≤ 5) ∧ (1 ≤ n.close ∧ n.close ≤ 1048576) ∧ (0 ≤ n.beat ∧ n.beat ≤ 1048576) ∧ (1 ≤ n.base ∧ n.base ≤ 1048576) ∧ (n.cap < n.base ∨ 1048576 < n.cap)) ∨
 ((1 ≤ n.CJ ∧ n.CJ ≤ 5) ∧ (1 ≤ n.close ∧ n.close ≤ 1048576) ∧ (0 ≤ n.beat ∧ n.beat ≤ 1048576) ∧ (1 ≤ n.base ∧ n.base ≤ 1048576) ∧ (n.base ≤ n.cap ∧ n.cap ≤ 1048576) ∧ (n.CK < 0 ∨ 1048576 < n.CK)) := by
 unfold FK.cM FK.span at h
 omega
def CheckPost (w : World) (p : Int × Int) (e : Ending) (w' : World) : Prop := ∃ v, e = .returned v ∧ ErrAt w' w.heap.size v p ∧ Below w.heap.size w w'
theorem cY {w w' : World} {p : Int × Int} {b : Nat} (hp : p.1 ≠ 0) (hb : Below w.heap.size w w') (he : w'.heap.size = b) :
 CheckPost w p (.returned (.iface 159 (.pointer (some ⟨b, 0, none⟩)))) (w'.alloc (.cells #[.int .i64 p.1, .int .i64 p.2] 164)) :=
 ⟨_, rfl, by subst he; exact .made hp hb.size, hb.alloc hb.size _⟩
set_option maxRecDepth 100000 in
theorem vb (w : World) (A : Option Addr) (c : Nat) (f : FK.Flow) (hh : ¬ FK.gC f) : Calls Tryz.prog 89 #[.agg #[.int .i64 f.deadline, .slice A f.CG.length c]] w (CheckPost w (FK.chk f)) := by
 have HR := Lib.hid (FK.Checked.head hh).chk
 have hcases : (f.deadline < 1 ∨ 1048576 < f.deadline) ∨ ((1 ≤ f.deadline ∧ f.deadline ≤ 1048576) ∧ f.CG.length = 0) ∨ ((1 ≤ f.deadline ∧ f.deadline ≤ 1048576) ∧ 12 < f.CG.length) := by
  unfold FK.gC FK.span at hh; omega
 clear hh
 rw [HR.out]
 rcases hcases with h | ⟨⟨h1, h2⟩, h3⟩ | ⟨⟨h1, h2⟩, h3⟩
 · go_enter Tryz.func89, Tryz.ntmps89
   go_wp2_with (first
    | (go_at_call 138; refine (vr _ _ _ (by omega)).mono ?_; rintro e w2 ⟨rfl, rfl⟩)
    | (go_at_call 137; refine (eG _ _ _).mono ?_; rintro e w2 ⟨rfl, rfl⟩))
   go_ret
   refine cY (w := w) (p := (2, -1)) (by decide) ?_ (by simp)
   exact (by repeat (first | assumption | exact Below.refl _ _ | refine below_drewN ?_ _ | refine Below.drew ?_ | refine Below.alloc ?_ (by first | omega | (simp; done) | (simp; omega)) _ | refine Below.setCell ?_ (by first | omega | (simp; done) | (simp; omega)) _))
 · have h3' : ((f.CG.length : Int) == 0) = true := by simp [h3]
   have H3 := Lib.hid h3
   clear h3
   go_enter Tryz.func89, Tryz.ntmps89
   go_wp2_with (first
    | (go_at_call 138; refine (jN _ _ _ (by omega) (by omega)).mono ?_; rintro e w2 ⟨rfl, rfl⟩)
    | (go_at_call 137; refine (eG _ _ _).mono ?_; rintro e w2 ⟨rfl, rfl⟩))
   go_ret
   refine cY (w := w) (p := (2, -1)) (by decide) ?_ (by simp)
   exact (by repeat (first | assumption | exact Below.refl _ _ | refine below_drewN ?_ _ | refine Below.drew ?_ | refine Below.alloc ?_ (by first | omega | (simp; done) | (simp; omega)) _ | refine Below.setCell ?_ (by first | omega | (simp; done) | (simp; omega)) _))
 · have h3' : ((f.CG.length : Int) == 0) = false := by rw [beq_eq_false_iff_ne]; omega
   go_enter Tryz.func89, Tryz.ntmps89
   go_wp2_with (first
    | (go_at_call 138; refine (jN _ _ _ (by omega) (by omega)).mono ?_; rintro e w2 ⟨rfl, rfl⟩)
    | (go_at_call 137; refine (eG _ _ _).mono ?_; rintro e w2 ⟨rfl, rfl⟩))
   go_ret
   refine cY (w := w) (p := (2, -1)) (by decide) ?_ (by simp)
   exact (by repeat (first | assumption | exact Below.refl _ _ | refine below_drewN ?_ _ | refine Below.drew ?_ | refine Below.alloc ?_ (by first | omega | (simp; done) | (simp; omega)) _ | refine Below.setCell ?_ (by first | omega | (simp; done) | (simp; omega)) _))
theorem Tab.lt {w : World} (h : Tab w) : 2 < w.heap.size := by
 have h0 := h 0 (by decide)
 rcases Nat.lt_or_ge 2 w.heap.size with hlt | hge
 · exact hlt
 · unfold World.cell? at h0
   simp [Array.getElem?_eq_none hge] at h0
theorem Tab.below {w w' : World} (h : Tab w) (hb : Below w.heap.size w w') : Tab w' := h.keep hb.to_same h.lt
theorem oI {len m : Nat} {p : Int} {l : List Int} (hm : m < l.length) : FK.EdgesOk len p (l.drop m) ↔ (p < l[m] ∧ l[m] < len ∧ FK.EdgesOk len l[m] (l.drop (m + 1))) := by
 rw [List.drop_eq_getElem_cons hm]; rfl
def v7 (len : Nat) (l : List Int) (m : Nat) (last : Int) : Prop := FK.EdgesOk len (-1) l ↔ FK.EdgesOk len last (l.drop m)
set_option maxRecDepth 100000 in
set_option maxHeartbeats 4000000 in
theorem vc (w : World) (B : Nat) (A : Option Addr) (c : Nat) (f : FK.Flow) (hB : B ≤ w.heap.size) (hN : NodesAt w B A c f.CG) (hT : Tab w)
 (hh : FK.gC f) : Calls Tryz.prog 89 #[.agg #[.int .i64 f.deadline, .slice A f.CG.length c]] w (CheckPost w (FK.chk f)) := by
 have hhead := hh
 obtain ⟨⟨d1, d2⟩, l1, l2⟩ := hhead
 have HN := Lib.hid hN
 have HT := Lib.hid hT
 have HH := Lib.hid hh
 have g1 := hN.len
 have g2 := hN.cap
 clear hT hh hN
 have hz : ((f.CG.length : Int) == 0) = false := by rw [beq_eq_false_iff_ne]; omega
 have hent : ∀ (args : Array Value) (W : World), (callFunc 140 args).run Tryz.prog W = .ok (.enter 140 args) W := fun args W => by kernel_rfl
 have HENT := Lib.hid hent
 clear hent
 go_enter Tryz.func89, Tryz.ntmps89
 go_wp2_with (go_at_call 138; refine (jN _ _ _ (by omega) (by omega)).mono ?_; rintro e w2 ⟨rfl, rfl⟩)
 go_loopw [33] (fun i wr => ∃ k : Nat, k ≤ f.CG.length ∧ i = .int .i64 k ∧ FK.OkTo f k ∧ Below w.heap.size w wr ∧ w.heap.size < wr.heap.size ∧ wr.cell? ⟨w.heap.size, 1, none⟩ = some (.slice A f.CG.length c)) (fun i _ => f.CG.length - (intOf i).toNat)
 case atStart => exact ⟨0, by omega, rfl, fun j n hj => by omega, (by repeat (first | assumption | exact Below.refl _ _ | refine below_drewN ?_ _ | refine Below.drew ?_ | refine Below.alloc ?_ (by first | omega | (simp; done) | (simp; omega)) _ | refine Below.setCell ?_ (by first | omega | (simp; done) | (simp; omega)) _)), by simp, by go_simp⟩
 case round =>
  obtain ⟨k, hk, rfl, hok, hb, hsz, hcf⟩ := hrel
  by_cases hlt : k < f.CG.length
  · obtain ⟨b, off, rfl, hbB, hcell⟩ := HN.out.cells (by omega)
    have hkn : f.CG[k]? = some f.CG[k] := by simp [hlt]
    obtain ⟨n, hn⟩ : ∃ n, n = f.CG[k] := ⟨_, rfl⟩
    rw [← hn] at hkn
    clear hn
    have hnode := (hcell k n hkn).keep (hb.to_same.mono hB) hbB
    obtain ⟨c0, c1, c2, c3, c4, c5, ⟨A6, n6, c6, hi⟩, hr⟩ := hnode
    have HI6 := Lib.hid hi
    have HKN := Lib.hid hkn
    have HOK := Lib.hid hok
    have HB := Lib.hid hb
    clear hcell hr hi hkn hok hb
    by_cases hno : FK.cM n
    · have HNO := Lib.hid hno
      obtain ⟨a1, a2, ⟨a3, a4⟩, ⟨a5, a6⟩, ⟨a7, a8⟩, ⟨a9, a10⟩, a11, a12⟩ := hno
      have hal := HI6.out.len
      have hac := HI6.out.cap
      go_wp2_with (go_at_call 138; refine (jN _ _ _ (by omega) (by omega)).mono ?_; rintro e w2 ⟨rfl, rfl⟩)
      go_loop [7, 89] (fun s t => ∃ (m : Nat) (last : Int), m ≤ n.after.length ∧ t = .int .i64 m ∧ s = .int .i64 last ∧ -1 ≤ last ∧ last < f.CG.length ∧ v7 f.CG.length n.after m last) (fun _ t => n.after.length - (intOf t).toNat)
      case atStart => exact ⟨0, -1, by omega, rfl, rfl, by omega, by omega, by simp [v7]⟩
      case round =>
       obtain ⟨m, last, hm, rfl, rfl, hl0, hl1, her⟩ := hrel
       have HER := Lib.hid her
       clear her
       by_cases hmlt : m < n.after.length
       · obtain ⟨b6, o6, hA6, hb6, hc6⟩ := HI6.out.cells (by omega)
         have hxm := hc6 m n.after[m] (by simp [hmlt])
         have hxr := HI6.out.rng n.after[m] (List.getElem_mem _)
         obtain ⟨x, hx⟩ : ∃ x, x = n.after[m] := ⟨_, rfl⟩
         rw [← hx] at hxm hxr
         have HD := Lib.hid (oI (len := f.CG.length) (p := last) hmlt)
         rw [← hx] at HD
         obtain ⟨hr1, hr2⟩ := hxr
         have hb6lt : b6 < wr.heap.size := by omega
         subst hA6
         clear hc6 hx
         by_cases h1 : x ≤ last
         · have hbad : ¬ FK.EdgesOk f.CG.length (-1) n.after := fun he => by have := (HD.out.1 (HER.out.1 he)).1; omega
           have HR := Lib.hid (FK.Checked.edge k n HH.out HOK.out HKN.out HNO.out hbad).chk
           clear hbad
           go_wp2_with (go_at_call 137; refine (eG _ _ _).mono ?_; rintro e w2 ⟨rfl, rfl⟩)
           go_ret
           rw [HR.out]
           refine cY (w := w) (p := (3, (k : Int))) (by simp) ?_ (by simp)
           exact (by repeat (first | exact HB.out | refine below_drewN ?_ _ | refine Below.drew ?_ | refine Below.alloc ?_ (by first | omega | (simp; done) | (simp; omega)) _ | refine Below.setCell ?_ (by first | omega | (simp; done) | (simp; omega)) _))
         · by_cases h2 : (f.CG.length : Int) ≤ x
           · have hbad : ¬ FK.EdgesOk f.CG.length (-1) n.after := fun he => by have := (HD.out.1 (HER.out.1 he)).2.1; omega
             have HR := Lib.hid (FK.Checked.edge k n HH.out HOK.out HKN.out HNO.out hbad).chk
             clear hbad
             go_wp2_with (go_at_call 137; refine (eG _ _ _).mono ?_; rintro e w2 ⟨rfl, rfl⟩)
             go_ret
             rw [HR.out]
             refine cY (w := w) (p := (3, (k : Int))) (by simp) ?_ (by simp)
             exact (by repeat (first | exact HB.out | refine below_drewN ?_ _ | refine Below.drew ?_ | refine Below.alloc ?_ (by first | omega | (simp; done) | (simp; omega)) _ | refine Below.setCell ?_ (by first | omega | (simp; done) | (simp; omega)) _))
           · go_wp2
             go_round
             case rel => exact ⟨m + 1, x, by omega, by go_num, rfl, by omega, by omega, HER.out.trans (HD.out.trans ⟨fun h => h.2.2, fun h => ⟨by omega, by omega, h⟩⟩)⟩
             case measure => simp [intOf]; omega
       · have hedges : FK.EdgesOk f.CG.length (-1) n.after := HER.out.2 (by rw [List.drop_of_length_le (by omega)]; trivial)
         have hnext : FK.OkTo f (k + 1) := fun j n' hj hn' => by
          rcases Nat.lt_or_ge j k with h | h
          · exact HOK.out j n' h hn'
          · obtain rfl : j = k := by omega
            have := HKN.out
            rw [hn'] at this
            cases this
            exact ⟨HNO.out, hedges⟩
         have HNEXT := Lib.hid hnext
         clear hnext hedges
         go_wp2
         go_roundw
         case rel => exact ⟨k + 1, by omega, by go_num, HNEXT.out, (by repeat (first | exact HB.out | refine below_drewN ?_ _ | refine Below.drew ?_ | refine Below.alloc ?_ (by first | omega | (simp; done) | (simp; omega)) _ | refine Below.setCell ?_ (by first | omega | (simp; done) | (simp; omega)) _)), by simp; omega, by go_simp⟩
         case measure => simp [intOf]; omega
    · have HR := Lib.hid (FK.Checked.bound k n HH.out HOK.out HKN.out hno).chk
      have hways := ut hno
      clear hno
      rcases hways with h | ⟨h0, h⟩ | ⟨h0, h⟩ | ⟨h0, h2, h⟩ | ⟨h0, h2, h3, h⟩ | ⟨h0, h2, h3, h4, h⟩ | ⟨h0, h2, h3, h4, h5, h⟩
      all_goals
       go_wp2_with (first
        | (go_at_call 138; refine (jN _ _ _ (by omega) (by omega)).mono ?_; rintro e w2 ⟨rfl, rfl⟩)
        | (go_at_call 138; refine (vr _ _ _ (by omega)).mono ?_; rintro e w2 ⟨rfl, rfl⟩)
        | (go_at_call 137; refine (eG _ _ _).mono ?_; rintro e w2 ⟨rfl, rfl⟩))
       go_ret
       rw [HR.out]
       refine cY (w := w) (p := (2, (k : Int))) (by simp) ?_ (by simp)
       exact (by repeat (first | exact HB.out | refine below_drewN ?_ _ | refine Below.drew ?_ | refine Below.alloc ?_ (by first | omega | (simp; done) | (simp; omega)) _ | refine Below.setCell ?_ (by first | omega | (simp; done) | (simp; omega)) _))
  · obtain rfl : k = f.CG.length := by omega
    have HOK := Lib.hid hok
    have HB := Lib.hid hb
    have hgt := HT.out.lt
    have hv := hok.aft_lt
    have hpos : ∀ n ∈ f.CG, ∀ x ∈ n.after, 0 ≤ x := fun n hn x hx => by
     obtain ⟨i, hi, rfl⟩ := List.mem_iff_getElem.1 hn
     have := (hok i f.CG[i] hi (by simp [hi])).2.bounds x hx
     omega
    have HORD := Lib.hid (mh wr B A c f.CG 140 #[] (fun W _ => Below wr.heap.size wr W) (by omega) l2 hv hpos HENT.out (Below.refl _ _)
     (fun W T h => ⟨(HN.out.keep (hb.to_same.mono hB)).keep (h.to_same.mono (by omega)), (HT.out.below hb).below h, h.size⟩)
     (fun W W' T h h' => h.trans h')
     (fun W T k h _ _ _ => (uu k W).mono fun e W' ⟨he, hw⟩ => by subst hw; exact ⟨he, h, Nat.le_refl _, fun _ _ _ => rfl⟩))
    clear hok hb hv hpos
    go_wp2_with (fail)
    refine HORD.out.mono ?_
    rintro e w2 ⟨left, T, rfl, hi2, ho2, hst2⟩
    have hstuck := ho2.stuck (HOK.out.aft_lt) hst2
    have hl4 := gq ho2 l2
    have HB2 := Lib.hid (HB.out.trans (hi2.mono HB.out.size))
    have HT2 := Lib.hid ((HT.out.below HB.out).below hi2)
    clear hi2 ho2 hst2
    by_cases hl0 : left = 0
    · have HR := Lib.hid (FK.Checked.ok HH.out HOK.out fun i hi => Classical.byContradiction fun hn => by
       have := (hstuck i).2 ⟨hi, hn⟩
       rw [hl0] at this; simp at this).chk
      have hne : ((left : Int) != 0) = false := by rw [hl0]; rfl
      clear hstuck hl0
      go_wp2
      go_ret
      rw [HR.out]
      exact ⟨_, rfl, .inl ⟨rfl, rfl⟩, HB2.out⟩
    · obtain ⟨t1, t2, t3⟩ := j8 left (by omega) hl0
      have HTZ := Lib.hid (jL left (by omega) hl0 w2 HT2.out)
      have hne : ((left : Int) != 0) = true := by rw [bne_iff_ne]; omega
      generalize Lib.ctz 64 left = t at HTZ t1 t2 t3
      have ht := (hstuck t).1 t1
      have HR := Lib.hid (FK.Checked.cycle t HH.out HOK.out ht.1 ht.2 fun j hj => Classical.byContradiction fun hn => by
       have := (hstuck j).2 ⟨by omega, hn⟩
       rw [t2 j hj] at this; cases this).chk
      clear hstuck hl0 t1 t2 ht
      go_wp2_with (first
       | (go_at_call 141; refine HTZ.out.mono ?_; rintro e w3 ⟨rfl, rfl⟩)
       | (go_at_call 137; refine (eG _ _ _).mono ?_; rintro e w3 ⟨rfl, rfl⟩))
      go_ret
      rw [HR.out]
      refine cY (w := w) (p := (4, (t : Int))) (by simp) ?_ (by simp)
      exact (by repeat (first | exact HB2.out | refine below_drewN ?_ _ | refine Below.drew ?_ | refine Below.alloc ?_ (by first | omega | (simp; done) | (simp; omega)) _ | refine Below.setCell ?_ (by first | omega | (simp; done) | (simp; omega)) _))
theorem mi (w : World) (B : Nat) (A : Option Addr) (c : Nat) (f : FK.Flow) (hB : B ≤ w.heap.size) (hN : NodesAt w B A c f.CG) (hT : Tab w) :
 Calls Tryz.prog 89 #[.agg #[.int .i64 f.deadline, .slice A f.CG.length c]] w (CheckPost w (FK.chk f)) := by
 by_cases hh : FK.gC f
 · exact vc w B A c f hB hN hT hh
 · exact vb w A c f hh
end Go.Proofs.YtmeegfamopaljaaGreatDoor

set_option maxRecDepth 10000
namespace Go.SL
open Go Go.RowKit
theorem Holds.fresh {E : Env} {w w' : World} {l : List HP} {b : Nat} {o : Obj} (h : Holds E w l) (hb : Below w.heap.size w w') (hge : w.heap.size ≤ b) (ho : w'.heap[b]? = some o) : Holds E w' (SL.ob b o :: l) := by
 refine ⟨h.is.below hb, fun k => k = b, E.free w, fun k hk => ?_, fun k hk => ⟨Nat.lt_of_lt_of_le hk.1 hb.size, hk.2⟩, fun k hk hk' => ?_, ⟨rfl, ho⟩, h.star.loc (fun _ h => h) fun k hk => hb.block k hk.1⟩
 · subst hk
   refine ⟨(Array.getElem?_eq_some_iff.1 ho).1, fun p hp e => ?_⟩
   have := h.is.lt hp
   omega
 · have := hk'.1
   omega
end Go.SL
namespace Go.Proofs.YtmeegfamopaljaaGreatDoor
open Go Go.RowKit Go.SL
section
variable {bs : List UInt8} {q : Nat} {f : FK.Flow} {m : List HP} {v : Value}
def ErrPost (p : Int × Int) (v : Value) (m : List HP) : Prop := (p.1 = 0 ∧ v = .nilIface ∧ m = []) ∨ (p.1 ≠ 0 ∧ ∃ b, v = .iface 159 (.pointer (some ⟨b, 0, none⟩)) ∧ m = [blk b 164 #[.int .i64 p.1, .int .i64 p.2]])
theorem ErrPost.ok {p : Int × Int} (h : ErrPost p v m) (h0 : p.1 = 0) : v = .nilIface ∧ m = [] := by
 rcases h with ⟨_, h⟩ | ⟨h, _⟩
 · exact h
 · exact absurd h0 h
theorem ErrPost.bad {p : Int × Int} (h : ErrPost p v m) (h0 : p.1 ≠ 0) : ∃ b, v = .iface 159 (.pointer (some ⟨b, 0, none⟩)) ∧ m = [blk b 164 #[.int .i64 p.1, .int .i64 p.2]] := by
 rcases h with ⟨h, _⟩ | ⟨_, h⟩
 · exact absurd h h0
 · exact h
theorem iz (f : FK.Flow) (A : Option Addr) (c : Nat) : Gives Tryz.prog Good 89 [.agg #[.int .i64 f.deadline, .slice A f.CG.length c]].toArray (fun w => NodesAt w w.heap.size A c f.CG)
 (ErrPost (FK.chk f)) := fun E w hE hw hN =>
 (mi w w.heap.size A c f (Nat.le_refl _) hN (hE.tab w hw)).mono fun e w' ⟨v, he, herr, hb⟩ => by
  have h0 := (Holds.start hw)
  rcases herr with ⟨h1, rfl⟩ | ⟨h1, b, rfl, hge, ho⟩
  · exact ⟨_, [], he, .inl ⟨h1, rfl, rfl⟩, h0.below hb⟩
  · exact ⟨_, [_], he, .inr ⟨h1, b, rfl, rfl⟩, h0.fresh hb hge ho⟩
theorem zU {e : Nat} (h : FK.rd bs 0 = .error e) : FK.pc bs = .error (1, (e : Int)) := by
 unfold FK.pc FK.iF
 rw [l3 h]
 rfl
theorem uk {n e : Nat} (h : FK.rd bs 0 = .ok (n, q)) (h2 : FK.dU bs (FK.fD bs) q = .error e) : FK.pc bs = .error (1, (e : Int)) := by
 unfold FK.pc FK.iF
 rw [lq h]
 simp only [FK.andThen, h2]
theorem wO {n q' : Nat} {ns : List FK.Node} (h : FK.rd bs 0 = .ok (n, q)) (h2 : FK.dU bs (FK.fD bs) q = .ok (ns, q')) : FK.iF bs 0 = .ok (⟨n, ns⟩, q') := by
 unfold FK.iF
 rw [lq h]
 simp only [FK.andThen, h2]
theorem zS (h : FK.iF bs 0 = .ok (f, q)) (hq : q < bs.length) : FK.pc bs = .error (1, (q : Int)) := by
 unfold FK.pc
 rw [h]
 simp only [hq, if_true]
theorem Br (h : FK.iF bs 0 = .ok (f, q)) (hq : ¬ q < bs.length) (hc : (FK.chk f).1 ≠ 0) : FK.pc bs = .error ((FK.chk f).1, (FK.chk f).2) := by
 unfold FK.pc
 rw [h]
 simp only [hq, if_false, hc]
theorem zT (h : FK.iF bs 0 = .ok (f, q)) (hq : ¬ q < bs.length) (hc : (FK.chk f).1 = 0) : FK.pc bs = .ok f := by
 unfold FK.pc
 rw [h]
 simp only [hq, if_false, hc, if_true]
end
variable {G : Env → Prop}
theorem oJ (b2 b3 : Nat) (x y z : Value) : DoesD Tryz.prog G 150 [.pointer (some ⟨b2, 0, none⟩), .pointer (some ⟨b3, 0, none⟩)].toArray .returning .returning [blk b2 29 #[x, y], blk b3 109 #[z]]
 fun m => m = [blk b2 29 #[x, y], blk b3 109 #[z]] := by
 refine DoesD.recover (v := .nilIface) Tryz.func150 Z Z Z (.inl ⟨rfl, rfl, rfl⟩) fun E fr hE => ?_
 exact aJ (At.block (At.seq (At.region (L.pure Z (im Z Z) (L.nil (At.then (aQ Z (At.region (L.as Z Z (L.nil (an (bm [_, _] rfl ⟨rfl, rfl⟩ (Ent.refl _)))))))))))))
theorem mc (b2 b3 e : Nat) (x y z : Value) : DoesD Tryz.prog G 150 [.pointer (some ⟨b2, 0, none⟩), .pointer (some ⟨b3, 0, none⟩)].toArray (.panicking (vk e)) (.panicking [{ v := .iface 237 (.int .i64 e), recovered := true }]) [blk b2 29 #[x, y], blk b3 109 #[z]]
 fun m => ∃ b, m = [blk b2 29 #[.int .i64 0, .slice none 0 0], blk b3 109 #[.iface 159 (.pointer (some ⟨b, 0, none⟩))], blk b 164 #[.int .i64 1, .int .i64 e]] := by
 refine DoesD.recover (v := .iface 237 (.int .i64 e)) Tryz.func150 Z Z Z (.inr ⟨[], rfl, rfl⟩) fun E fr hE => ?_
 refine aJ (At.block (At.seq (At.region (L.pure Z (cz Z Z) (L.nil (At.then (aj Z (At.seq (At.region (L.pure Z (ev_as Z Z Z) (L.ex Z Z Z (L.ex Z Z Z (L.nil (At.then (aQ Z (At.seq (At.region (L.as Z Z (L.nil ?_)))))))))))))))))))
 refine At.then (At.region (L.pure Z (bn (ps := []) (vs := []) (cs := #[.int .i64 0, .slice none 0 0]) Z Z Z Z Z) (L.mv Z Z (L.pure Z (bn (ps := [(0, .const (.int .i64 1)), (1, .tmp 12)]) (vs := [.int .i64 1, .int .i64 e]) (cs := #[.int .i64 1, .int .i64 e]) Z Z Z Z Z) (L.op Z (cb Z Z fun b14 => (L.pure Z (cO Z Z Z) ?_)))))))
 refine L.op Z (aK Z (m := 2) (vs := [.int .i64 0, .slice none 0 0]) Z Z Z Z (by simp [Value.oneCell']) (by simp) ?_)
 exact L.st Z Z Z Z (by simp) (L.nil (an (bm [_, _, _] rfl ⟨rfl, b14, rfl⟩ (Ent.perm (List.Perm.swap _ _ _)))))
end Go.Proofs.YtmeegfamopaljaaGreatDoor

namespace Go.Proofs.YtmeegfamopaljaaGreatDoor
open Go Go.RowKit Go.SL
def z7 (bs : List UInt8) (p : HP) (v : Value) (m : List HP) : Prop :=
 (∃ (f : FK.Flow) (A' : Option Addr) (c' : Nat), FK.pc bs = .ok f ∧ (∀ nd ∈ f.CG, Small nd) ∧ v = .tuple #[.agg #[.int .i64 f.deadline, .slice A' f.CG.length c'], .nilIface] ∧ m = [nodesOwn (.slice A' f.CG.length c') f.CG, p]) ∨
 (∃ (e a : Int) (b : Nat), FK.pc bs = .error (e, a) ∧ e ≠ 0 ∧ v = .tuple #[.agg #[.int .i64 0, .slice none 0 0], .iface 159 (.pointer (some ⟨b, 0, none⟩))] ∧ m = [blk b 164 #[.int .i64 e, .int .i64 a], p])
set_option maxRecDepth 10000 in
theorem px {p : HP} {A : Option Addr} {c : Nat} {bs : List UInt8} (hp : Reads p A bs) (hl : bs.length ≤ 1099511627776) :
 Does Tryz.prog Good 93 [.slice A bs.length c].toArray [p] (z7 bs p) := by
 refine kV Tryz.func93 Z Z fun E fr hE => ?_
 refine ai (At.seq (At.region (L.op Z (aN (z := .agg #[.int .i64 0, .slice none 0 0]) Z Z fun b2 => (L.op Z (aN (z := .nilIface) Z Z fun b3 => (L.nil (At.then (At.seq (At.region ?_))))))))))
 refine L.pure Z (eO Z Z) ?_
 refine L.op Z (qy Z (L.nil (At.then (At.seq (At.region (L.mv Z Z (L.pure Z (bn (ps := [(0, .tmp 7)]) (vs := [.slice A bs.length c]) (cs := #[.slice A bs.length c, .int .i64 0]) Z Z Z Z Z) (L.op Z (cb Z Z fun b9 => (L.as Z Z (L.nil (At.then (At.seq (At.region (L.mv Z Z ?_)))))))))))))))
 refine L.op Z (j5 Z Z Z hE (e9 (c := c) hp hl b9 0 (Nat.zero_le _)) (aP .head (.tail (.tail (.head)))) ?_ ?_)
 ·
  rintro c m ⟨e, q', he, rfl, rfl⟩
  refine aJ (cf ?_)
  refine mg Z Z hE (mc b2 b3 e _ _ _) (aP (.tail (.tail (.tail (.head)))) (.tail (.tail (.head)))) ?_
  rintro m ⟨b, rfl⟩
  refine cE ?_
  exact fe [_, _] rfl (bZ (vs := [.int .i64 0, .slice none 0 0]) Z Z Z Z (aw Z)) (eR Z Z (ag Z)) (.inr ⟨1, e, b, zU he, by omega, rfl, rfl⟩) (Ent.drop.trans (Ent.drop.trans (Ent.cons Ent.drop)))
 rintro v m ⟨n, q1, hn, rfl, rfl⟩
 refine aJ (aI 0 Z Z Z ?_)
 refine L.st Z Z Z Z (by first | decide | simp | (simp; omega)) ?_
 refine L.nil (At.then (At.seq (At.region (L.mv Z Z (L.mv Z Z ?_)))))
 refine L.pure Z (eO Z Z) ?_
 refine L.op Z (j5 Z Z Z hE (xb (c := c) hp hl b9 q1 (FK.ri hn).2.2) (aP (.tail (.head)) (.tail (.head))) ?_ ?_)
 ·
  rintro c m ⟨e, q', he, rfl, rfl⟩
  refine aJ (cf ?_)
  refine mg Z Z hE (mc b2 b3 e _ _ _) (aP (.tail (.tail (.head))) (.tail (.tail (.head)))) ?_
  rintro m ⟨b, rfl⟩
  refine cE ?_
  exact fe [_, _] rfl (bZ (vs := [.int .i64 0, .slice none 0 0]) Z Z Z Z (aw Z)) (eR Z Z (ag Z)) (.inr ⟨1, e, b, uk hn he, by omega, rfl, rfl⟩) (Ent.drop.trans (Ent.drop.trans (Ent.cons Ent.drop)))
 rintro v m ⟨ns, q2, hns, hq2, hsm, ⟨A', c', rfl⟩, rfl⟩
 refine cE (aI 1 Z Z Z (L.st Z Z Z Z (by simp [Value.cells]) ?_))
 have hflow := wO hn hns
 refine L.nil (At.then (At.seq (At.seq (At.region (L.mv Z Z (aR Z Z (aI 1 Z Z Z (bd Z Z Z Z (L.mv Z Z (L.pure Z (aM Z Z) (L.pure Z (bl Z Z Z) (L.nil (At.then ?_)))))))))))))
 refine aE Z (fun c24 => ?_) (fun c24 => ?_)
 ·
  refine At.region (L.mv Z Z (aR Z Z (aI 1 Z Z Z (bd Z Z Z Z (L.pure Z (cO Z Z Z) (L.op Z (vC Z (cf ?_))))))))
  refine mg Z Z hE (mc b2 b3 q2 _ _ _) (aP .head (.tail (.tail (.tail (.head))))) ?_
  rintro m ⟨b, rfl⟩
  refine cE ?_
  exact fe [_, _] rfl (bZ (vs := [.int .i64 0, .slice none 0 0]) Z Z Z Z (aw Z)) (eR Z Z (ag Z)) (.inr ⟨1, q2, b, zS hflow (by omega), by omega, rfl, rfl⟩) (Ent.drop.trans (Ent.drop.trans (Ent.cons (Ent.drop.trans Ent.drop))))
 ·
  refine At.skip (At.then (At.seq (At.seq ?_)))
  by_cases hc0 : (FK.chk ⟨n, ns⟩).1 = 0
  ·
   refine At.region (L.val Z (ao (vs := [.int .i64 n, .slice A' ns.length c']) Z Z Z Z) (aw Z) ?_)
   refine L.op Z (fE Z Z Z hE (iz ⟨n, ns⟩ A' c') (nodesOwn.at (.tail (.head)) fun nd cN => (hsm nd cN).i64) ?_)
   rintro v m hv
   obtain ⟨rfl, rfl⟩ := hv.ok hc0
   refine aL (L.as Z Z (L.nil (At.then (At.seq (At.region (L.mv Z Z (L.pure Z (co Z Z) (L.nil (At.then (aj Z (At.skip (At.then (At.seq (At.region (L.val Z (ao (vs := [.int .i64 n, .slice A' ns.length c']) Z Z Z Z) (aw Z) ?_)))))))))))))))
   refine L.op Z (aK Z (m := 2) (vs := [.int .i64 n, .slice A' ns.length c']) Z Z Z Z (by simp [Value.oneCell']) (by simp [Value.cells]) ?_)
   refine L.st Z Z Z Z (by first | decide | simp | (simp; omega)) ?_
   refine L.nil (At.then (At.ret ?_))
   refine At.leave (.inl Z) Z Z hE (oJ b2 b3 _ _ _) (aP (.tail (.head)) .head) ?_
   rintro m rfl
   refine aJ ?_
   exact fe [_, _] rfl (bZ (vs := [.int .i64 n, .slice A' ns.length c']) Z Z Z Z (aw Z)) (eR Z Z (ag Z)) (.inl ⟨⟨n, ns⟩, A', c', zT hflow (by omega) hc0, hsm, rfl, rfl⟩) (Ent.drop.trans (Ent.drop.trans (Ent.cons Ent.drop)))
  ·
   refine At.region (L.val Z (ao (vs := [.int .i64 n, .slice A' ns.length c']) Z Z Z Z) (aw Z) ?_)
   refine L.op Z (fE Z Z Z hE (iz ⟨n, ns⟩ A' c') (nodesOwn.at (.tail (.head)) fun nd cN => (hsm nd cN).i64) ?_)
   rintro v m hv
   obtain ⟨b, rfl, rfl⟩ := hv.bad hc0
   refine ai (L.as Z Z (L.nil (At.then (At.seq (At.region (L.mv Z Z (L.pure Z (fv Z Z) (L.nil (At.then (aQ Z (At.seq (At.region (L.pure Z (bn (ps := []) (vs := []) (cs := #[.int .i64 0, .slice none 0 0]) Z Z Z Z Z) (L.mv Z Z ?_))))))))))))))
   refine L.op Z (aK Z (m := 2) (vs := [.int .i64 0, .slice none 0 0]) Z Z Z Z (by simp [Value.oneCell']) (by simp [Value.cells]) ?_)
   refine L.st Z Z Z Z (by first | decide | simp | (simp; omega)) ?_
   refine L.nil (At.then (At.ret (aG ?_)))
   refine At.leave (.inl Z) Z Z hE (oJ b2 b3 _ _ _) (aP (.tail (.head)) .head) ?_
   rintro m rfl
   refine aJ ?_
   exact fe [_, _] rfl (bZ (vs := [.int .i64 0, .slice none 0 0]) Z Z Z Z (aw Z)) (eR Z Z (ag Z)) (.inr ⟨_, _, b, Br hflow (by omega) hc0, hc0, rfl, rfl⟩) (Ent.drop.trans (Ent.drop.trans (Ent.cons (Ent.drop.trans Ent.drop))))
open Go Go.RowKit Go.SL
theorem zG (u w : Value) (hu : u.oneCell' = true) (hw : w.oneCell' = true) (z : Value) (hz : z.cells.size = 1) : Instr.fill (fun i => some (i * 1, 1)) (Array.map (fun x => z.cells[x % z.cells.size]!) (Array.range (2 * 1))) ((List.map (fun x => x.fst) [((0 : Nat), Operand.tmp 30), (1, .tmp 31)]).zip [u, w]) = some #[u, w] := by
 have e1 : Array.range (2 * 1) = #[0, 1] := rfl
 rw [e1]
 simp [Instr.fill, gT hu, gT hw, hz]
def ju (f e j d : Nat) (p : EA) (S : FK.En) (J : FK.Jn) (σ : FK.Dsk) (bs : List UInt8) (fl : FK.Flow) (pb : HP) (v : Value) (m : List HP) : Prop :=
 ((J.add σ (dr (FK.frame (1 :: bs)))).2.2 = 0 ∧ ∃ S0 p', FK.rh S S0 ∧ v = .tuple #[aY (S.CD + 1), .nilIface] ∧ m = cd f e j d p' (S0.submit fl) (J.add σ (dr (FK.frame (1 :: bs)))).1 (J.add σ (dr (FK.frame (1 :: bs)))).2.1 ++ [pb]) ∨
 ((J.add σ (dr (FK.frame (1 :: bs)))).2.2 ≠ 0 ∧ v = .tuple #[aY 0, ef (J.add σ (dr (FK.frame (1 :: bs)))).2.2] ∧ m = cd f e j d p S (J.add σ (dr (FK.frame (1 :: bs)))).1 (J.add σ (dr (FK.frame (1 :: bs)))).2.1 ++ [pb])
set_option maxRecDepth 10000 in
set_option maxHeartbeats 2000000 in
theorem qW {f e j d : Nat} {p : EA} {S : FK.En} {J : FK.Jn} {σ : FK.Dsk} {pb : HP} {A : Option Addr} {c : Nat} {bs : List UInt8} {fl : FK.Flow} (h : FK.Ok S) (hJ : J.n < 1000000) (hr : Roomy σ) (hp : Reads pb A bs) (hA : A = none → bs = []) (hl : bs.length ≤ 1000000000) (hd : FK.pc bs = .ok fl) (hfit : FK.Fit fl) (hroom : S.roomy = true) (hsets : S.sets < 9223372036854775807) (hlr : S.CD < 9223372036854775807) : Does Tryz.prog Good 50 [aO f, .slice A bs.length c].toArray (cd f e j d p S J σ ++ [pb]) (ju f e j d p S J σ bs fl pb) := by
 have h12 := hfit.head.2.2
 have h1 := hfit.head.2.1
 obtain ⟨hd1, hd2⟩ := hfit.head.1
 refine Does.body Tryz.func50 Z Z fun E fr hE => ?_
 refine bF (At.seq (At.region (L.as Z Z (L.as Z Z (L.nil (At.then (At.seq (At.region (L.mv Z Z ?_)))))))))
 refine L.op Z (ah Z Z Z hE (px hp (by omega)) (Ent.sel (.tail (.tail (.tail (.tail .head))))) ?_)
 rintro v m hv
 obtain ⟨A', c', hsm, rfl, rfl⟩ : ∃ A' c', (∀ nd ∈ fl.CG, Small nd) ∧ v = .tuple #[.agg #[.int .i64 fl.deadline, .slice A' fl.CG.length c'], .nilIface] ∧ m = [nodesOwn (.slice A' fl.CG.length c') fl.CG, pb] := by
  rcases hv with ⟨f', A', c', hd', hsm, hv, hm⟩ | ⟨e', a', b', hd', _⟩
  · rw [hd] at hd'
    injection hd' with hd'
    subst hd'
    exact ⟨A', c', hsm, hv, hm⟩
  · rw [hd] at hd'
    cases hd'
 refine aJ (L.mv Z Z (L.ex Z Z Z (L.ex Z Z Z (L.op Z (aN (z := .agg #[.int .i64 0, .slice none 0 0]) Z Z fun b6 => ?_)))))
 refine L.op Z (aK Z (m := 2) (vs := [.int .i64 fl.deadline, .slice A' fl.CG.length c']) Z Z Z Z (by simp [Value.oneCell']) (by simp [Value.cells]) ?_)
 refine aD b6 #[.int .i64 fl.deadline, .slice A' fl.CG.length c'] rfl (L.as Z Z (L.nil (At.then (At.seq (At.block (At.seq (At.region (L.mv Z Z (L.pure Z (co Z Z) (L.as Z Z (L.nil (At.then (aj Z (At.seq (At.region (L.mv Z Z (aR Z Z (aI 0 Z Z Z (bd Z Z Z Z ?_)))))))))))))))))))
 refine L.op Z (ah Z Z Z hE wF (Ent.sel HasEng.sel) ?_)
 rintro v m ⟨rfl, rfl⟩
 refine ai ?_
 rw [show (S.runs.any (fun r => decide (0 < r.2.ended)) || decide (S.runs.length < 6)) = true from hroom]
 refine L.pure Z (cg Z Z) (L.as Z Z (L.nil (At.then (aj Z (At.skip (an (At.then (At.seq (At.seq ?_)))))))))
 refine At.ent (l' := ap e p S :: blk b6 29 #[.int .i64 fl.deadline, .slice A' fl.CG.length c'] :: nodesOwn (.slice A' fl.CG.length c') fl.CG :: pb :: cD f e j :: au j d J :: ak d σ :: fr) (Ent.refl _) ?_
 refine Dr.start Z (dP 0 Z Z (ae Z) (dP 1 Z Z (am Z) (dP 2 Z Z (ab (off := 1) Z Z) (dL 3 Z Z (aa Z Z) (ag Z) (dP 5 Z Z (ae Z) (dR 4 Z Z (da Z Z Z Z Z Z fun b30 => (dK [true] (Kept.cons (ag Z) Kept.nil) ?_))))))))
 refine dR 6 Z Z (dF (m := 2) (z := .slice none 0 0) (size := 1) (ps := [(0, .tmp 30), (1, .tmp 31)]) (vs := [.slice (some ⟨b30, 0, none⟩) 1 1, .slice A bs.length c]) (cs := #[.slice (some ⟨b30, 0, none⟩) 1 1, .slice A bs.length c]) Z Z Z Z (by omega) (by omega) Z (zG _ _ Z Z _ Z) fun b32 => ?_)
 refine dK [true] (Kept.cons (ag Z) Kept.nil) ?_
 refine dR 7 rfl rfl (ah rfl rfl rfl hE (tu (A1 := some ⟨b30, 0, none⟩) (bs1 := [1]) (p1 := bO (.slice (some ⟨b30, 0, none⟩) 1 1) [1]) 1 c (Reads.row (c := 1) fun _ => ⟨b30, rfl⟩) (fun h => by cases h) hp hA (by simp; omega) (by simp; omega)) ((Ent.cons ((pW (b := b30) (bs := [1]) (by unfold maxLen; simp)).trans (Ent.cons (Ent.sel (.tail (.tail (.tail .head)))))))) ?_)
 rintro v m rfl
 refine cE (aC .head ?_)
 rintro A33 c33 rfl f1 f2 - - -
 obtain ⟨hreads, hnil⟩ := il f1 f2
 refine dK [true] (Kept.cons (ag Z) Kept.nil) ?_
 refine dR 8 Z Z (ah Z Z Z hE (sf c33 hJ hreads hnil (by simp; omega) hr) ((cc (.tail (.tail (.tail (.tail (.tail (.tail (.tail .head))))))) (.tail (.tail (.tail (.tail (.tail (.tail (.tail .head))))))) .head)) ?_)
 rintro v m ⟨hv, rfl⟩
 refine cE ?_
 rw [show ([1] ++ bs : List UInt8) = 1 :: bs from rfl] at hv ⊢
 generalize hω : J.add σ (dr (FK.frame (1 :: bs))) = ω at hv ⊢
 refine dK [false] Kept.nil (dP 9 Z Z (ax Z) (dE (At.then (At.seq ?_))))
 by_cases HE : ω.2.2 = 0
 ·
  replace hv := hv.trans (if_pos HE)
  subst hv
  refine At.region (L.mv Z Z (L.pure Z (co Z Z) (L.nil (At.then (aj Z (At.skip (At.then (At.seq (Dr.start Z (dP 0 Z Z (ae Z) (dP 1 Z Z (am Z) (dP 2 Z Z (ab (off := 0) Z Z) (dL 3 Z Z (aa Z Z) (ag Z) (dL 4 Z Z (ao (vs := [.int .i64 fl.deadline, .slice A' fl.CG.length c']) Z Z Z Z) (aw Z) ?_))))))))))))))
  refine dR 5 Z Z (ah Z Z Z hE (my (nv := .slice A' fl.CG.length c') h1 (by omega) hfit.after (by omega) (by omega) h.now (by have := h.queueLe; omega) (by have := h.tmsLe; omega) hsets (fun r hr => (h.low r.1 (List.mem_map_of_mem (f := (·.1)) hr)).2) hlr) (aP HasEng.sel (.tail (.tail (.tail (.tail (.tail (.tail .head))))))) ?_)
  rintro v m ⟨S0, p', hcut, rfl, rfl⟩
  refine ai (dK [false, false] Kept.nil (dP 6 Z Z (ax Z) (dP 7 Z Z (ax Z) (dE (At.then (At.ret ?_))))))
  refine cU (cd f e j d p' (S0.submit fl) ω.1 ω.2.1 ++ [pb]) Z Z Z (by unfold ju; rw [hω]; exact .inl ⟨HE, S0, p', hcut, rfl, rfl⟩) ?_
  show Ent _ (cD f e j :: ap e p' _ :: au j d ω.1 :: ak d ω.2.1 :: pb :: fr)
  exact al
 ·
  replace hv := hv.trans (if_neg HE)
  subst hv
  refine At.region (L.mv Z Z (L.pure Z (fv Z Z) (L.nil (At.then (aQ Z (At.seq (At.region (L.mv Z Z (L.as Z Z (L.as Z Z (L.nil (At.then (At.ret (aG ?_))))))))))))))
  refine cU (cd f e j d p S ω.1 ω.2.1 ++ [pb]) Z Z Z (by unfold ju; rw [hω]; exact .inr ⟨HE, by unfold ef; rw [if_neg HE]; rfl, rfl⟩) ?_
  show Ent _ (cD f e j :: ap e p _ :: au j d ω.1 :: ak d ω.2.1 :: pb :: fr)
  exact al
end Go.Proofs.YtmeegfamopaljaaGreatDoor

set_option maxHeartbeats 1000000
set_option maxRecDepth 10000
namespace FK
inductive Redo : En → List UInt8 → En → Prop
 | submit {S S0 : En} {bs : List UInt8} {fl : Flow} (hd : pc bs = .ok fl) (hf : Fit fl) (hl : bs.length ≤ 1000000000) (hc : rh S S0) (hu : ∀ S1, rh S S1 → S1 = S0) : Redo S (1 :: bs) (S0.submit fl)
 | poll {S : En} {id k : Nat} {q : List Pl} {R : Rn} {s : Sp} {nd : Node} (hq : S.CH = ⟨id, (k : Int), 0⟩ :: q) (hR : S.getR id = some R) (hs : R.CF[k]? = some s) (hn : R.fl.CG[k]? = some nd) : Redo S (aV 2 0) (S.hand ⟨id, (k : Int), 0⟩ q R s nd)
 | beat {S : En} {t id k : Nat} {wh : Int} {R : Rn} {nd : Node} (hlt : t < 18446744073709551616) (ht : (S.CI.find? (·.1 == t)).map (·.2) = some ⟨id, (k : Int), wh⟩) (hR : S.getR id = some R) (hn : R.fl.CG[k]? = some nd) : Redo S (aV 3 t) (S.life ⟨id, (k : Int), wh⟩ nd)
 | complete {S : En} {t : Nat} {P : Pl} (hlt : t < 18446744073709551616) (ht : (S.CI.find? (·.1 == t)).map (·.2) = some P) : Redo S (aV 4 t) (S.complete t)
 | fail {S : En} {t : Nat} {P : Pl} (hlt : t < 18446744073709551616) (ht : (S.CI.find? (·.1 == t)).map (·.2) = some P) : Redo S (aV 5 t) (S.fail t)
 | cancel {S : En} {id : Nat} {R : Rn} (hlt : id < 18446744073709551616) (hR : S.getR id = some R) : Redo S (aV 6 id) (S.finish id 4)
 | tick {S U : En} {n : Nat} (hlt : n < 18446744073709551616) (ht : Ticks (S.later n) S U) : Redo S (aV 7 n) U
 | seed {S : En} {n : Nat} (hlt : n < 18446744073709551616) : Redo S (aV 8 n) { S with seed := n }
structure Fine (S : En) : Prop where
 ok : Ok S
 sets : S.sets ≤ 4611686018427387904
 ends : S.ends ≤ 4611686018427387904
 tok : S.CC ≤ 4611686018427387904
 runs : S.CD ≤ 4611686018427387904
theorem uT {op n : Nat} : 1 ≤ (aV op n).length := by unfold aV; simp
theorem mQ {op n : Nat} : (aV op n).drop 1 = bA n := rfl
end FK
namespace Go.Proofs.YtmeegfamopaljaaGreatDoor
open Go Go.RowKit Go.SL
section
variable {A : Option Addr} {jv : Value} {S : FK.En}
theorem fk {f e op n : Nat} {p : EA} {Q : FK.En → Prop} {pb : HP} {c : Nat} (h1 : op ≠ 1) (hop : op < 256) (hn : n < 18446744073709551616) (hp : Reads pb A (FK.aV op n)) (hc : (FK.aV op n).length ≤ c)
 (hD : Does Tryz.prog Good 166 [aO f, .int .i64 op, aY n].toArray [gx f e jv, ap e p S] fun v m => v = .tuple #[] ∧ ∃ U, Q U ∧ m = [gx f e jv, ap e p U]) :
 Does Tryz.prog Good 110 [aO f, .slice A (FK.aV op n).length c].toArray [gx f e jv, ap e p S, pb] fun v m => v = .tuple #[] ∧ ∃ U, Q U ∧ m = [gx f e jv, ap e p U, pb] := by
 obtain ⟨g, o, rfl⟩ := hp.form (by unfold FK.aV; simp)
 have hlen := FK.uT (op := op) (n := n)
 have h8 : (UInt8.ofNat op).toNat = op := by simp; omega
 have hel : (FK.aV op n).length ≤ 11 := by
  have := eH (n := n) hn
  unfold FK.aV
  simp
  omega
 have hT : Does Tryz.prog Good 173 [wa (some ⟨g, o, none⟩) (FK.aV op n).length c 1].toArray [pb] fun v m => (∃ w, v = .tuple #[aY n, w]) ∧ m = [pb] := by
  have h := lY (G := Good) (hp.cut (k := 1) hc) (c := c - 1) (by rw [List.length_drop]; omega) (by rw [List.length_drop]; omega)
  rw [List.length_drop] at h
  refine h.mono fun v m ⟨hv, hm⟩ => ⟨m, ⟨?_, hm⟩, Ent.refl _⟩
  have ht := FK.pq hn []
  rw [List.append_nil] at ht
  rcases hv with ⟨h0, _⟩ | ⟨n', k, h0, _, _, rfl⟩
  · rw [FK.mQ, ht] at h0; cases h0
  · rw [FK.mQ, ht] at h0
    injection h0 with h0
    injection h0 with h0 _
    subst h0
    exact ⟨_, rfl⟩
 refine Does.body Tryz.func110 Z Z fun E fr hE => ?_
 refine cE (At.seq (At.region (L.mv Z Z (L.pure Z (aT (z := 1) (i := 0) Z Z Z Z (by omega)) ?_))))
 refine L.val Z (aa (v := .int .u8 op) Z Z) (fun w hw => by have := hp.at (.tail (.tail .head)) Z (j := 0) (x := UInt8.ofNat op) Z w hw; rw [h8] at this; simpa using this) ?_
 refine L.pure Z (bz (r := (op : Int)) Z Z Z (dd (by omega))) (L.as Z Z (L.nil (At.then (At.seq (At.seq (At.region (L.mv Z Z (L.pure Z (aH (r := false) Z Z (by simp; omega)) (L.nil (At.then (aj Z (At.skip (At.then (At.seq (At.region (L.mv Z Z (L.pure Z (dc (z := 1) (a := 1) (b := (FK.aV op n).length) Z Z Z ⟨_, rfl⟩ rfl (by omega) (by omega)) ?_)))))))))))))))))
 refine L.op Z (ah Z Z Z hE hT (Ent.sel (.tail (.tail .head))) ?_)
 rintro v m ⟨⟨w, rfl⟩, rfl⟩
 refine ai (L.mv Z Z (L.ex Z Z Z (L.ex Z Z Z (L.as Z Z (L.as Z Z (L.nil (At.then (At.region (L.mv Z Z (L.mv Z Z (L.mv Z Z ?_)))))))))))
 refine L.op Z (ah Z Z Z hE hD (aP (.tail .head) (.tail .head)) ?_)
 rintro v m ⟨rfl, U, hU, rfl⟩
 exact aJ (L.nil (bm [gx f e jv, ap e p U, pb] rfl ⟨rfl, U, hU, rfl⟩ (Ent.refl _)))
theorem uh {f e : Nat} {p : EA} {pb : HP} {c : Nat} {bs : List UInt8} {fl : FK.Flow} (h : FK.Fine S) (hp : Reads pb A (1 :: bs)) (hc : (1 :: bs).length ≤ c) (hl : bs.length ≤ 1000000000) (hd : FK.pc bs = .ok fl) (hfit : FK.Fit fl) :
 Does Tryz.prog Good 110 [aO f, .slice A (1 :: bs).length c].toArray [gx f e jv, ap e p S, pb] fun v m => v = .tuple #[] ∧ ∃ S0 p', FK.rh S S0 ∧ m = [gx f e jv, ap e p' (S0.submit fl), pb] := by
 obtain ⟨g, o, rfl⟩ := hp.form (by simp)
 have h12 := hfit.head.2.2
 have h1 := hfit.head.2.1
 obtain ⟨hd1, hd2⟩ := hfit.head.1
 have hs1 := h.sets
 have hs2 := h.runs
 have hlen : (1 :: bs).length = bs.length + 1 := rfl
 have hR : Does Tryz.prog Good 93 [wa (some ⟨g, o, none⟩) (1 :: bs).length c 1].toArray [pb] fun v m => ∃ A' c', (∀ nd ∈ fl.CG, Small nd) ∧ v = .tuple #[.agg #[.int .i64 fl.deadline, .slice A' fl.CG.length c'], .nilIface] ∧ m = [nodesOwn (.slice A' fl.CG.length c') fl.CG, pb] := by
  have h := px (c := c - 1) (hp.cut (k := 1) hc) (by rw [List.length_drop]; omega)
  rw [List.length_drop] at h
  refine h.mono fun v m hv => ⟨m, ?_, Ent.refl _⟩
  rcases hv with ⟨f', A', c', hd', hsm, hv, hm⟩ | ⟨e', a', b', hd', _⟩
  · have hd' : FK.pc bs = .ok f' := hd'
    rw [hd] at hd'
    injection hd' with hd'
    subst hd'
    exact ⟨A', c', hsm, hv, hm⟩
  · have hd' : FK.pc bs = .error _ := hd'
    rw [hd] at hd'
    cases hd'
 refine Does.body Tryz.func110 Z Z fun E fr hE => ?_
 refine cE (At.seq (At.region (L.mv Z Z (L.pure Z (aT (z := 1) (i := 0) Z Z Z Z (by omega)) ?_))))
 refine L.val Z (aa (v := .int .u8 1) Z Z) (fun w hw => by have := hp.at (.tail (.tail .head)) Z (j := 0) (x := 1) Z w hw; simpa using this) ?_
 refine L.pure Z (bz (r := 1) Z Z Z (by decide)) (L.as Z Z (L.nil (At.then (At.seq (At.seq (At.region (L.mv Z Z (L.pure Z (aH (r := true) Z Z Z) (L.nil (At.then (aQ Z (At.seq (At.region (L.mv Z Z (L.pure Z (dc (z := 1) (a := 1) (b := (1 :: bs).length) Z Z Z ⟨_, rfl⟩ rfl (by omega) (by omega)) ?_)))))))))))))))
 refine L.op Z (ah Z Z Z hE hR (Ent.sel (.tail (.tail .head))) ?_)
 rintro v m ⟨A', c', hsm, rfl, rfl⟩
 refine aJ (L.mv Z Z (L.ex Z Z Z (L.ex Z Z Z (L.op Z (aN (z := .agg #[.int .i64 0, .slice none 0 0]) Z Z fun b5 => ?_)))))
 refine L.op Z (aK Z (m := 2) (vs := [.int .i64 fl.deadline, .slice A' fl.CG.length c']) Z Z Z Z (by simp [Value.oneCell']) (by simp [Value.cells]) ?_)
 refine aD b5 #[.int .i64 fl.deadline, .slice A' fl.CG.length c'] rfl (L.as Z Z ?_)
 refine At.ent (l' := ap e p S :: nodesOwn (.slice A' fl.CG.length c') fl.CG :: blk b5 29 #[.int .i64 fl.deadline, .slice A' fl.CG.length c'] :: pb :: gx f e jv :: fr) (by show Ent (blk b5 29 _ :: nodesOwn _ _ :: pb :: gx f e jv :: ap e p S :: fr) _; exact al) ?_
 refine L.nil (At.then (At.seq (Dr.start Z (dP 0 Z Z (ae Z) (dP 1 Z Z (am Z) (dP 2 Z Z (ab (off := 0) Z Z) (dL 3 Z Z (aa Z Z) (ag Z) (dL 4 Z Z (ao (vs := [.int .i64 fl.deadline, .slice A' fl.CG.length c']) Z Z Z Z) (aw Z) ?_))))))))
 refine dR 5 Z Z (ah Z Z Z hE (my (nv := .slice A' fl.CG.length c') h1 (by omega) hfit.after (by omega) (by omega) h.ok.now (by have := h.ok.queueLe; omega) (by have := h.ok.tmsLe; omega) (by omega) (fun r hr => (h.ok.low r.1 (List.mem_map_of_mem (f := (·.1)) hr)).2) (by omega)) (aP .head .head) ?_)
 rintro v m ⟨S0, p', hcut, rfl, rfl⟩
 refine ai (dK [false, false] Kept.nil (dE (At.then (At.ret (aG (bm [gx f e jv, ap e p' (S0.submit fl), pb] rfl ⟨rfl, S0, p', hcut, rfl⟩ ?_))))))
 show Ent _ (gx f e jv :: ap e p' (S0.submit fl) :: pb :: fr)
 exact al
end
open Go Go.RowKit Go.SL Go.Extern
set_option maxRecDepth 10000
set_option maxHeartbeats 4000000
theorem Bv (e : Addr) (t bv : Nat) (o : Value) : Does Tryz.prog Good 147 [.iface 159 (.pointer (some e)), .iface 161 (.pointer (some ⟨t, 0, none⟩)), rv 161 bv 150, rt 159].toArray [blk bv 161 #[.pointer (some ⟨t, 0, none⟩)], blk t 159 #[o]] fun v m => v = .bool true ∧ m = [blk t 159 #[.pointer (some e)]] := by
 refine Does.body Tryz.func147 Z Z fun E fr hE => ?_
 refine aJ (At.seq (At.region (L.op Z (cb Z Z fun b6 => (L.as Z Z (L.nil (At.then (At.block ?_))))))))
 refine bk (X := Unit) (fun _ => [(0, .iface 159 (.pointer (some e))), (1, .iface 161 (.pointer (some ⟨t, 0, none⟩))), (3, rt 159), (6, .pointer (some ⟨b6, 0, none⟩))]) (fun _ => blk b6 226 #[cN 161, .pointer (some ⟨bv, 0, none⟩), .int .u64 150] :: blk bv 161 #[.pointer (some ⟨t, 0, none⟩)] :: blk t 159 #[o] :: fr) (fun _ => True) (fun _ => 0) () trivial ⟨rfl, rfl, rfl, rfl, trivial⟩ (Ent.refl _) ?_
 rintro _ _
 refine At.block (At.seq (At.seq (At.region (L.mv Z Z ?_))))
 refine L.pure Z (fS Z fun w _ => As _ w) ?_
 refine L.mv Z Z ?_
 refine L.pure Z (dy Z Z (iH _) fun w _ => tA w) ?_
 refine L.nil (At.then (aQ Z (At.seq (At.region (L.val Z (ao (vs := [cN 161, .pointer (some ⟨bv, 0, none⟩), .int .u64 150]) Z Z Z Z) (aw Z) ?_)))))
 refine L.val Z (fS (args := [rv 161 bv 150]) Z fun w h => Cz bv t w h) (ag Z) ?_
 refine L.mv Z Z ?_
 refine L.op Z (ro (v := fun b => rv 159 b 150) Z Z (fun w => yI e w) fun b23 => ?_)
 refine L.op Z (pB (args := [rv 159 t 406, rv 159 b23 150]) Z (b := t) (j := 0) (tb := 159) (cs := #[o]) (u := .tuple #[]) (v := .pointer (some e)) (φ := bK ⟨b23, 0, none⟩ (.pointer (some e))) Z (ag (b := b23) Z) (fun w h1 h2 => setF t b23 e o w h1 h2) ?_)
 exact L.nil (At.then (At.seq (At.region (L.as Z Z (L.nil (At.then (At.ret (aG (aB (cp (aB (aA [blk t 159 #[.pointer (some e)]] rfl Z ⟨rfl, rfl⟩ (Ent.cons (Ent.drop.trans (Ent.drop.trans Ent.drop)))))))))))))))
theorem Bu (e : Int) (t bv : Nat) (o : Value) : Does Tryz.prog Good 147 [.iface 48 (.int .i64 e), .iface 165 (.pointer (some ⟨t, 0, none⟩)), rv 165 bv 150, rt 48].toArray [blk bv 165 #[.pointer (some ⟨t, 0, none⟩)], blk t 48 #[o]] fun v m => v = .bool true ∧ m = [blk t 48 #[.int .i64 e]] := by
 refine Does.body Tryz.func147 Z Z fun E fr hE => ?_
 refine aJ (At.seq (At.region (L.op Z (cb Z Z fun b6 => (L.as Z Z (L.nil (At.then (At.block ?_))))))))
 refine bk (X := Unit) (fun _ => [(0, .iface 48 (.int .i64 e)), (1, .iface 165 (.pointer (some ⟨t, 0, none⟩))), (3, rt 48), (6, .pointer (some ⟨b6, 0, none⟩))]) (fun _ => blk b6 226 #[cN 165, .pointer (some ⟨bv, 0, none⟩), .int .u64 150] :: blk bv 165 #[.pointer (some ⟨t, 0, none⟩)] :: blk t 48 #[o] :: fr) (fun _ => True) (fun _ => 0) () trivial ⟨rfl, rfl, rfl, rfl, trivial⟩ (Ent.refl _) ?_
 rintro _ _
 refine At.block (At.seq (At.seq (At.region (L.mv Z Z ?_))))
 refine L.pure Z (fS Z fun w _ => m3 _ w) ?_
 refine L.mv Z Z ?_
 refine L.pure Z (dy Z Z (iH _) fun w _ => tz w) ?_
 refine L.nil (At.then (aQ Z (At.seq (At.region (L.val Z (ao (vs := [cN 165, .pointer (some ⟨bv, 0, none⟩), .int .u64 150]) Z Z Z Z) (aw Z) ?_)))))
 refine L.val Z (fS (args := [rv 165 bv 150]) Z fun w h => Cy bv t w h) (ag Z) ?_
 refine L.mv Z Z ?_
 refine L.op Z (ro (v := fun b => rv 48 b 130) Z Z (fun w => yH e w) fun b23 => ?_)
 refine L.op Z (pB (args := [rv 48 t 386, rv 48 b23 130]) Z (b := t) (j := 0) (tb := 48) (cs := #[o]) (u := .tuple #[]) (v := .int .i64 e) (φ := bK ⟨b23, 0, none⟩ (.int .i64 e)) Z (ag (b := b23) Z) (fun w h1 h2 => setN t b23 e o w h1 h2) ?_)
 exact L.nil (At.then (At.seq (At.region (L.as Z Z (L.nil (At.then (At.ret (aG (aB (cp (aB (aA [blk t 48 #[.int .i64 e]] rfl Z ⟨rfl, rfl⟩ (Ent.cons (Ent.drop.trans (Ent.drop.trans Ent.drop)))))))))))))))
theorem xL (x : Int) (t bv : Nat) (o : Value) : Does Tryz.prog Good 147 [.iface 48 (.int .i64 x), .iface 161 (.pointer (some ⟨t, 0, none⟩)), rv 161 bv 150, rt 159].toArray [blk bv 161 #[.pointer (some ⟨t, 0, none⟩)], blk t 159 #[o]] fun v m => v = .bool false ∧ m = [blk t 159 #[o]] := by
 refine Does.body Tryz.func147 Z Z fun E fr hE => ?_
 refine aJ (At.seq (At.region (L.op Z (cb Z Z fun b6 => (L.as Z Z (L.nil (At.then (At.block ?_))))))))
 refine bk (X := Unit) (fun _ => [(0, .iface 48 (.int .i64 x)), (1, .iface 161 (.pointer (some ⟨t, 0, none⟩))), (3, rt 159), (6, .pointer (some ⟨b6, 0, none⟩))]) (fun _ => blk b6 226 #[cN 161, .pointer (some ⟨bv, 0, none⟩), .int .u64 150] :: blk bv 161 #[.pointer (some ⟨t, 0, none⟩)] :: blk t 159 #[o] :: fr) (fun _ => True) (fun _ => 0) () trivial ⟨rfl, rfl, rfl, rfl, trivial⟩ (Ent.refl _) ?_
 rintro _ _
 refine At.block (At.seq (At.seq (At.region (L.mv Z Z ?_))))
 refine L.pure Z (fS Z fun w _ => m3 _ w) ?_
 refine L.mv Z Z ?_
 refine L.pure Z (dy Z Z (iH _) fun w _ => re w) ?_
 refine L.nil (At.then (aj Z (At.skip (At.then (At.seq (At.seq (At.region (L.mv Z Z (L.pure Z (ko (z := .nilIface) Z Z (by kernel_rfl) (by kernel_rfl)) (L.mv Z Z (L.ex Z Z Z (L.ex Z Z Z (L.as Z Z (L.as Z Z (L.nil (At.then (At.seq (At.region (L.mv Z Z ?_)))))))))))))))))))
 refine L.mv Z Z (L.off Z Z Z Z Z Z (L.off Z Z Z Z Z Z (L.off Z Z Z Z Z Z (L.pure Z (aq Z Z Z) (L.nil (At.then (aj Z (At.skip (At.then (At.seq (At.region (L.mv Z Z (L.nil (At.then (At.block (At.seq (At.region (L.pure Z (ko (z := .nilIface) Z Z (by kernel_rfl) (by kernel_rfl)) (L.ex Z Z Z ?_)))))))))))))))))))
 refine L.ex Z Z Z (L.nil (At.then (aj Z (At.seq (At.region (L.pure Z (ko (z := .nilIface) Z Z (by kernel_rfl) (by kernel_rfl)) (L.ex Z Z Z (L.ex Z Z Z (L.nil (At.then (aj Z (At.seq (At.region (L.as Z Z (L.nil (At.then (At.seq (At.region (L.as Z Z ?_)))))))))))))))))))
 exact L.nil (At.then (At.ret (aB (aB (cp (aB (aA [blk t 159 #[o]] rfl Z ⟨rfl, rfl⟩ (Ent.drop.trans Ent.drop))))))))
theorem Af (e : Addr) (t : Nat) (o : Value) : Does Tryz.prog Good 91 [.iface 159 (.pointer (some e)), .iface 161 (.pointer (some ⟨t, 0, none⟩))].toArray [blk t 159 #[o]] fun v m => v = .bool true ∧ m = [blk t 159 #[.pointer (some e)]] := by
 refine Does.body Tryz.func91 Z Z fun E fr hE => ?_
 refine ai (At.seq (At.region (L.as Z Z (L.nil (At.then (At.seq (At.seq (At.region (L.mv Z Z (L.pure Z (cz Z Z) (L.nil (At.then (aj Z (At.skip (At.then (At.seq (At.seq (At.region (L.mv Z Z ?_)))))))))))))))))))
 refine L.pure Z (cz Z Z) (L.nil (At.then (aj Z (At.skip (At.then (At.seq (At.region (L.mv Z Z ?_))))))))
 refine L.op Z (ro (v := fun b => rv 161 b 150) Z Z (fun w => pm t w) fun bv => ?_)
 refine L.op Z (aN (z := .agg #[.pointer none, .pointer none, .int .u64 0]) Z Z fun b5 => ?_)
 refine L.op Z (aK Z (m := 3) (vs := [cN 161, .pointer (some ⟨bv, 0, none⟩), .int .u64 150]) Z Z Z Z (by simp [Value.oneCell']) (by simp [Value.cells]) ?_)
 refine L.nil (At.then (At.seq (At.region (L.val Z (ao (vs := [cN 161, .pointer (some ⟨bv, 0, none⟩), .int .u64 150]) Z Z Z Z) (aw Z) ?_))))
 refine L.pure Z (fS Z fun w _ => yh bv w) ?_
 refine L.as Z Z (L.nil (At.then (At.seq (At.seq (At.region (L.mv Z Z ?_))))))
 refine L.pure Z (dy Z Z (pg _) fun w _ => yu w) ?_
 refine L.pure Z (bX Z Z Z) (L.mv Z Z (lA Z Z Z (ao (vs := [cN 161, .pointer (some ⟨bv, 0, none⟩), .int .u64 150]) Z Z Z Z) (aw Z) ?_))
 refine lA Z Z Z (fS (args := [rv 161 bv 150]) (φ := bK ⟨bv, 0, none⟩ (.pointer (some ⟨t, 0, none⟩))) Z fun w h => vK bv t w h) (ag Z) ?_
 refine L.pure Z (aq Z Z Z) (L.nil (At.then (aj Z (At.skip (At.then (At.seq (At.region (L.mv Z Z ?_))))))))
 refine L.pure Z (dy Z Z (x7 _) fun w _ => yC w) ?_
 refine L.as Z Z (L.nil (At.then (At.seq (At.seq (At.region (L.mv Z Z ?_))))))
 refine L.pure Z (dy Z Z (pg _) fun w _ => BG w) ?_
 refine L.pure Z (bX Z Z Z) (L.mv Z Z (lT Z Z Z (ae Z) ?_))
 refine lA Z Z Z (aa Z Z) (fun w hw => hE.err w hw.is) ?_
 refine lT Z Z Z (dy Z Z (jV _) fun w _ => mI w) ?_
 refine lT Z Z Z (cg Z Z) (L.pure Z (aq Z Z Z) (L.nil (At.then (aj Z (At.skip (At.then (At.seq (At.region (L.mv Z Z (L.mv Z Z (L.val Z (ao (vs := [cN 161, .pointer (some ⟨bv, 0, none⟩), .int .u64 150]) Z Z Z Z) (aw Z) (L.mv Z Z ?_))))))))))))
 refine L.op Z (ah Z Z Z hE (Bv e t bv o) (aP (.tail (.head)) (.tail (.head))) ?_)
 rintro v m ⟨rfl, rfl⟩
 exact ai (L.as Z Z (L.nil (At.then (At.ret (aA [blk t 159 #[.pointer (some e)]] rfl Z ⟨rfl, rfl⟩ (Ent.cons Ent.drop))))))
theorem Ag (e : Int) (t : Nat) (o : Value) : Does Tryz.prog Good 91 [.iface 48 (.int .i64 e), .iface 165 (.pointer (some ⟨t, 0, none⟩))].toArray [blk t 48 #[o]] fun v m => v = .bool true ∧ m = [blk t 48 #[.int .i64 e]] := by
 refine Does.body Tryz.func91 Z Z fun E fr hE => ?_
 refine ai (At.seq (At.region (L.as Z Z (L.nil (At.then (At.seq (At.seq (At.region (L.mv Z Z (L.pure Z (cz Z Z) (L.nil (At.then (aj Z (At.skip (At.then (At.seq (At.seq (At.region (L.mv Z Z ?_)))))))))))))))))))
 refine L.pure Z (cz Z Z) (L.nil (At.then (aj Z (At.skip (At.then (At.seq (At.region (L.mv Z Z ?_))))))))
 refine L.op Z (ro (v := fun b => rv 165 b 150) Z Z (fun w => wj t w) fun bv => ?_)
 refine L.op Z (aN (z := .agg #[.pointer none, .pointer none, .int .u64 0]) Z Z fun b5 => ?_)
 refine L.op Z (aK Z (m := 3) (vs := [cN 165, .pointer (some ⟨bv, 0, none⟩), .int .u64 150]) Z Z Z Z (by simp [Value.oneCell']) (by simp [Value.cells]) ?_)
 refine L.nil (At.then (At.seq (At.region (L.val Z (ao (vs := [cN 165, .pointer (some ⟨bv, 0, none⟩), .int .u64 150]) Z Z Z Z) (aw Z) ?_))))
 refine L.pure Z (fS Z fun w _ => BW bv w) ?_
 refine L.as Z Z (L.nil (At.then (At.seq (At.seq (At.region (L.mv Z Z ?_))))))
 refine L.pure Z (dy Z Z (pg _) fun w _ => Cl w) ?_
 refine L.pure Z (bX Z Z Z) (L.mv Z Z (lA Z Z Z (ao (vs := [cN 165, .pointer (some ⟨bv, 0, none⟩), .int .u64 150]) Z Z Z Z) (aw Z) ?_))
 refine lA Z Z Z (fS (args := [rv 165 bv 150]) (φ := bK ⟨bv, 0, none⟩ (.pointer (some ⟨t, 0, none⟩))) Z fun w h => AZ bv t w h) (ag Z) ?_
 refine L.pure Z (aq Z Z Z) (L.nil (At.then (aj Z (At.skip (At.then (At.seq (At.region (L.mv Z Z ?_))))))))
 refine L.pure Z (dy Z Z (x7 _) fun w _ => CA w) ?_
 refine L.as Z Z (L.nil (At.then (At.seq (At.seq (At.region (L.mv Z Z ?_))))))
 refine L.pure Z (dy Z Z (pg _) fun w _ => kindN w) ?_
 refine L.pure Z (bX Z Z Z) (L.mv Z Z (lT Z Z Z (ae Z) ?_))
 refine lA Z Z Z (aa Z Z) (fun w hw => hE.err w hw.is) ?_
 refine lT Z Z Z (dy Z Z (jV _) fun w _ => sQ w) ?_
 refine lT Z Z Z (cg Z Z) (L.pure Z (aq Z Z Z) (L.nil (At.then (aj Z (At.skip (At.then (At.seq (At.region (L.mv Z Z (L.mv Z Z (L.val Z (ao (vs := [cN 165, .pointer (some ⟨bv, 0, none⟩), .int .u64 150]) Z Z Z Z) (aw Z) (L.mv Z Z ?_))))))))))))
 refine L.op Z (ah Z Z Z hE (Bu e t bv o) (aP (.tail (.head)) (.tail (.head))) ?_)
 rintro v m ⟨rfl, rfl⟩
 exact ai (L.as Z Z (L.nil (At.then (At.ret (aA [blk t 48 #[.int .i64 e]] rfl Z ⟨rfl, rfl⟩ (Ent.cons Ent.drop))))))
theorem BB (x : Int) (t : Nat) (o : Value) : Does Tryz.prog Good 91 [.iface 48 (.int .i64 x), .iface 161 (.pointer (some ⟨t, 0, none⟩))].toArray [blk t 159 #[o]] fun v m => v = .bool false ∧ m = [blk t 159 #[o]] := by
 refine Does.body Tryz.func91 Z Z fun E fr hE => ?_
 refine ai (At.seq (At.region (L.as Z Z (L.nil (At.then (At.seq (At.seq (At.region (L.mv Z Z (L.pure Z (cz Z Z) (L.nil (At.then (aj Z (At.skip (At.then (At.seq (At.seq (At.region (L.mv Z Z ?_)))))))))))))))))))
 refine L.pure Z (cz Z Z) (L.nil (At.then (aj Z (At.skip (At.then (At.seq (At.region (L.mv Z Z ?_))))))))
 refine L.op Z (ro (v := fun b => rv 161 b 150) Z Z (fun w => pm t w) fun bv => ?_)
 refine L.op Z (aN (z := .agg #[.pointer none, .pointer none, .int .u64 0]) Z Z fun b5 => ?_)
 refine L.op Z (aK Z (m := 3) (vs := [cN 161, .pointer (some ⟨bv, 0, none⟩), .int .u64 150]) Z Z Z Z (by simp [Value.oneCell']) (by simp [Value.cells]) ?_)
 refine L.nil (At.then (At.seq (At.region (L.val Z (ao (vs := [cN 161, .pointer (some ⟨bv, 0, none⟩), .int .u64 150]) Z Z Z Z) (aw Z) ?_))))
 refine L.pure Z (fS Z fun w _ => yh bv w) ?_
 refine L.as Z Z (L.nil (At.then (At.seq (At.seq (At.region (L.mv Z Z ?_))))))
 refine L.pure Z (dy Z Z (pg _) fun w _ => yu w) ?_
 refine L.pure Z (bX Z Z Z) (L.mv Z Z (lA Z Z Z (ao (vs := [cN 161, .pointer (some ⟨bv, 0, none⟩), .int .u64 150]) Z Z Z Z) (aw Z) ?_))
 refine lA Z Z Z (fS (args := [rv 161 bv 150]) (φ := bK ⟨bv, 0, none⟩ (.pointer (some ⟨t, 0, none⟩))) Z fun w h => vK bv t w h) (ag Z) ?_
 refine L.pure Z (aq Z Z Z) (L.nil (At.then (aj Z (At.skip (At.then (At.seq (At.region (L.mv Z Z ?_))))))))
 refine L.pure Z (dy Z Z (x7 _) fun w _ => yC w) ?_
 refine L.as Z Z (L.nil (At.then (At.seq (At.seq (At.region (L.mv Z Z ?_))))))
 refine L.pure Z (dy Z Z (pg _) fun w _ => BG w) ?_
 refine L.pure Z (bX Z Z Z) (L.mv Z Z (lT Z Z Z (ae Z) ?_))
 refine lA Z Z Z (aa Z Z) (fun w hw => hE.err w hw.is) ?_
 refine lT Z Z Z (dy Z Z (jV _) fun w _ => mI w) ?_
 refine lT Z Z Z (cg Z Z) (L.pure Z (aq Z Z Z) (L.nil (At.then (aj Z (At.skip (At.then (At.seq (At.region (L.mv Z Z (L.mv Z Z (L.val Z (ao (vs := [cN 161, .pointer (some ⟨bv, 0, none⟩), .int .u64 150]) Z Z Z Z) (aw Z) (L.mv Z Z ?_))))))))))))
 refine L.op Z (ah Z Z Z hE (xL x t bv o) (aP (.tail (.head)) (.tail (.head))) ?_)
 rintro v m ⟨rfl, rfl⟩
 exact ai (L.as Z Z (L.nil (At.then (At.ret (aA [blk t 159 #[o]] rfl Z ⟨rfl, rfl⟩ (Ent.cons Ent.drop))))))
set_option maxRecDepth 10000
set_option maxHeartbeats 4000000
theorem sj {G : Env → Prop} (b : Nat) (e a : Value) : Does Tryz.prog G 353 [.pointer (some ⟨b, 0, none⟩)].toArray [blk b 164 #[e, a]] fun v m => v = .iface 48 e ∧ m = [blk b 164 #[e, a]] := by
 refine Does.body Tryz.func353 Z Z fun E fr hE => ?_
 exact ai (At.seq (At.region (L.as Z Z (L.nil (At.then (At.seq (At.region (L.mv Z Z (aR Z Z (aI 0 Z Z Z (bd Z Z Z Z (L.pure Z (cO Z Z Z) (L.as Z Z (L.nil (At.then (At.ret (aA [_] rfl Z ⟨rfl, rfl⟩ (Ent.refl _))))))))))))))))))
theorem sP (e : Int) : Does Tryz.prog Good 149 [.iface 48 (.int .i64 e), .iface 48 (.int .i64 e), .bool true].toArray [] fun v m => v = .bool true ∧ m = [] := by
 refine Does.body Tryz.func149 Z Z fun E fr hE => ?_
 refine aL (At.seq (At.region (L.as Z Z (L.nil (At.then (At.block ?_))))))
 refine bk (X := Unit) (fun _ => [(0, .iface 48 (.int .i64 e)), (1, .iface 48 (.int .i64 e)), (2, .bool true)]) (fun _ => fr) (fun _ => True) (fun _ => 0) () trivial ⟨rfl, rfl, rfl, trivial⟩ (Ent.refl _) ?_
 rintro _ _
 exact At.block (At.seq (At.seq (At.region (L.mv Z Z (L.mv Z Z (lT Z Z Z (ae Z) (lT Z Z Z (ae Z) (lT Z Z Z (nT (r := true) Z Z Z Z Z Z (by simp)) (L.pure Z (aq Z Z Z) (L.nil (At.then (aQ Z (At.seq (At.region (L.as Z Z (L.nil (At.then (At.ret (aG (aB (cp (aB (aA [] rfl Z ⟨rfl, rfl⟩ (Ent.refl _))))))))))))))))))))))))
theorem sO (b : Nat) (e : Int) (a : Value) : Does Tryz.prog Good 149 [.iface 159 (.pointer (some ⟨b, 0, none⟩)), .iface 48 (.int .i64 e), .bool true].toArray [blk b 164 #[.int .i64 e, a]] fun v m => v = .bool true ∧ m = [blk b 164 #[.int .i64 e, a]] := by
 refine Does.body Tryz.func149 Z Z fun E fr hE => ?_
 refine ai (At.seq (At.region (L.as Z Z (L.nil (At.then (At.block ?_))))))
 refine bk (X := Bool) (fun x => [(0, bif x then .iface 48 (.int .i64 e) else .iface 159 (.pointer (some ⟨b, 0, none⟩))), (1, .iface 48 (.int .i64 e)), (2, .bool true)]) (fun _ => blk b 164 #[.int .i64 e, a] :: fr) (fun _ => True) (fun x => bif x then 0 else 1) false trivial ⟨rfl, rfl, rfl, trivial⟩ (Ent.refl _) ?_
 rintro x _
 refine At.block (At.seq (At.seq ?_))
 by_cases hx : x = true
 ·
  subst hx
  exact At.region (L.mv Z Z (L.mv Z Z (lT Z Z Z (ae Z) (lT Z Z Z (ae Z) (lT Z Z Z (nT (r := true) Z Z Z Z Z Z (by simp)) (L.pure Z (aq Z Z Z) (L.nil (At.then (aQ Z (At.seq (At.region (L.as Z Z (L.nil (At.then (At.ret (aG (aB (cp (aB (aA [_] rfl Z ⟨rfl, rfl⟩ (Ent.refl _)))))))))))))))))))))
 ·
  obtain rfl : x = false := by simpa using hx
  refine At.region (L.mv Z Z (L.mv Z Z (lT Z Z Z (ae Z) (lT Z Z Z (ae Z) (lT Z Z Z (xx Z Z Z Z) (L.pure Z (aq Z Z Z) (L.nil (At.then (aj Z (At.skip (At.then (At.seq (At.seq (At.region (L.mv Z Z (L.pure Z (ko (z := .nilIface) Z Z (by kernel_rfl) (by kernel_rfl)) (L.mv Z Z (L.ex Z Z Z (L.ex Z Z Z ?_)))))))))))))))))))
  refine L.as Z Z (L.as Z Z (L.nil (At.then (At.seq (At.region (L.mv Z Z (L.mv Z Z (L.off Z Z Z Z Z Z (L.off Z Z Z Z Z Z (L.off Z Z Z Z Z Z (L.pure Z (aq Z Z Z) (L.nil (At.then (aj Z (At.skip (At.then (At.seq (At.region (L.mv Z Z ?_)))))))))))))))))))
  refine L.nil (At.then (At.block (At.seq (At.region (L.pure Z (Cx Z Z (by kernel_rfl)) (L.ex Z Z Z (L.ex Z Z Z (L.nil (At.then (aQ Z (At.seq (At.region (L.as Z Z (L.nil (At.then (At.seq (At.region (L.mv Z Z ?_))))))))))))))))))
  refine L.op Z (ey Z Z Z (AU _) Z hE (sj b (.int .i64 e) a) (Ent.refl _) ?_)
  rintro v m ⟨rfl, rfl⟩
  refine ai (L.as Z Z (L.nil (At.then (At.seq (At.region (L.mv Z Z (L.pure Z (cz Z Z) (L.nil (At.then (aj Z (At.skip (an (an ?_)))))))))))))
  exact At.round true trivial (by simp) ⟨rfl, rfl, rfl, trivial⟩ (Ent.refl _)
theorem rM (e : Int) : Does Tryz.prog Good 92 [.iface 48 (.int .i64 e), .iface 48 (.int .i64 e)].toArray [] fun v m => v = .bool true ∧ m = [] := by
 refine Does.body Tryz.func92 Z Z fun E fr hE => ?_
 refine aL (At.seq (At.region (L.as Z Z (L.nil (At.then (At.seq (At.seq (At.region (L.mv Z Z (L.pure Z (cz Z Z) (L.mv Z Z (lT Z Z Z (ae Z) (lT Z Z Z (cz Z Z) (L.pure Z (aq Z Z Z) (L.nil (At.then (aj Z (At.skip (At.then ?_)))))))))))))))))))
 refine At.seq (At.region (L.mv Z Z ?_))
 refine L.pure Z (fS Z fun w _ => m3 _ w) ?_
 refine L.pure Z (dy Z Z (mF _) fun w _ => mT w) ?_
 refine L.as Z Z (L.nil (At.then (At.seq (At.region (L.mv Z Z (L.mv Z Z (L.mv Z Z ?_)))))))
 refine L.op Z (ah Z Z Z hE (sP e) (Ent.refl _) ?_)
 rintro v m ⟨rfl, rfl⟩
 exact aL (L.as Z Z (L.nil (At.then (At.ret (aA [] rfl Z ⟨rfl, rfl⟩ (Ent.refl _))))))
theorem zz (b : Nat) (e : Int) (a : Value) : Does Tryz.prog Good 92 [.iface 159 (.pointer (some ⟨b, 0, none⟩)), .iface 48 (.int .i64 e)].toArray [blk b 164 #[.int .i64 e, a]] fun v m => v = .bool true ∧ m = [blk b 164 #[.int .i64 e, a]] := by
 refine Does.body Tryz.func92 Z Z fun E fr hE => ?_
 refine ai (At.seq (At.region (L.as Z Z (L.nil (At.then (At.seq (At.seq (At.region (L.mv Z Z (L.pure Z (cz Z Z) (L.mv Z Z (lT Z Z Z (ae Z) (lT Z Z Z (cz Z Z) (L.pure Z (aq Z Z Z) (L.nil (At.then (aj Z (At.skip (At.then ?_)))))))))))))))))))
 refine At.seq (At.region (L.mv Z Z ?_))
 refine L.pure Z (fS Z fun w _ => m3 _ w) ?_
 refine L.pure Z (dy Z Z (mF _) fun w _ => mT w) ?_
 refine L.as Z Z (L.nil (At.then (At.seq (At.region (L.mv Z Z (L.mv Z Z (L.mv Z Z ?_)))))))
 refine L.op Z (ah Z Z Z hE (sO b e a) (Ent.refl _) ?_)
 rintro v m ⟨rfl, rfl⟩
 exact ai (L.as Z Z (L.nil (At.then (At.ret (aA [_] rfl Z ⟨rfl, rfl⟩ (Ent.refl _))))))
theorem nF : Does Tryz.prog Good 48 [.nilIface].toArray [] fun v m => v = .tuple #[.int .i64 0, .int .i64 (-1)] ∧ m = [] := by
 refine Does.body Tryz.func48 Z Z fun E fr hE => ?_
 refine aL (At.seq (At.region (L.as Z Z (L.as Z Z (L.nil (At.then (At.seq (At.region (L.op Z (aN (z := .pointer none) Z Z fun b4 => (L.nil (At.then (At.seq (At.region (L.op Z (aN (z := .int .i64 0) Z Z fun b5 => (L.nil (At.then (At.seq (At.block (At.seq ?_)))))))))))))))))))))
 exact At.region (L.mv Z Z (L.pure Z (im Z Z) (L.as Z Z (L.nil (At.then (aQ Z (At.seq (At.region (L.as Z Z (L.as Z Z (L.nil (At.then (At.ret (aB (aG (cU [] rfl Z Z ⟨rfl, rfl⟩ (Ent.drop.trans Ent.drop)))))))))))))))))
theorem tW (e : Int) : Does Tryz.prog Good 48 [.iface 48 (.int .i64 e)].toArray [] fun v m => v = .tuple #[.int .i64 e, .int .i64 (-1)] ∧ m = [] := by
 refine Does.body Tryz.func48 Z Z fun E fr hE => ?_
 refine aL (At.seq (At.region (L.as Z Z (L.as Z Z (L.nil (At.then (At.seq (At.region (L.op Z (aN (z := .pointer none) Z Z fun b4 => (L.nil (At.then (At.seq (At.region (L.op Z (aN (z := .int .i64 0) Z Z fun b5 => (L.nil (At.then (At.seq (At.block (At.seq ?_)))))))))))))))))))))
 refine At.region (L.mv Z Z (L.pure Z (cz Z Z) (L.as Z Z (L.nil (At.then (aj Z (At.seq (At.region (L.mv Z Z (L.pure Z (cO Z Z Z) ?_))))))))))
 refine L.op Z (ah Z Z Z hE (BB e b4 (.pointer none)) (Ent.sel (.tail (.head))) ?_)
 rintro v m ⟨rfl, rfl⟩
 refine ai (L.mv Z Z (L.off Z Z Z Z Z Z (L.off Z Z Z Z Z Z (L.off Z Z Z Z Z Z (L.off Z Z Z Z Z Z (L.off Z Z Z Z Z Z (L.off Z Z Z Z Z Z (L.off Z Z Z Z Z Z (L.pure Z (aq Z Z Z) (L.as Z Z (L.nil (At.then (aj Z (At.seq (At.region (L.mv Z Z (L.pure Z (cO Z Z Z) ?_)))))))))))))))))
 refine L.op Z (ah Z Z Z hE (Ag e b5 (.int .i64 0)) (Ent.sel (.tail (.head))) ?_)
 rintro v m ⟨rfl, rfl⟩
 refine ai (L.mv Z Z (lT Z Z Z (ae Z) (lA Z Z Z (aa Z Z) (ag Z) (lT Z Z Z (cO Z Z Z) ?_))))
 refine L.on Z Z Z (ah Z Z Z hE (rM e) (Ent.refl _) ?_)
 rintro v m ⟨rfl, rfl⟩
 exact aL (L.pure Z (aq Z Z Z) (L.as Z Z (L.nil (At.then (aQ Z (At.seq (At.region (bd Z Z Z Z (L.as Z Z (L.as Z Z (L.nil (At.then (At.ret (aB (aG (cU [] rfl Z Z ⟨rfl, rfl⟩ (Ent.drop.trans Ent.drop)))))))))))))))))
theorem tV (b : Nat) (e a : Int) : Does Tryz.prog Good 48 [.iface 159 (.pointer (some ⟨b, 0, none⟩))].toArray [blk b 164 #[.int .i64 e, .int .i64 a]] fun v m => v = .tuple #[.int .i64 e, .int .i64 a] ∧ m = [blk b 164 #[.int .i64 e, .int .i64 a]] := by
 refine Does.body Tryz.func48 Z Z fun E fr hE => ?_
 refine ai (At.seq (At.region (L.as Z Z (L.as Z Z (L.nil (At.then (At.seq (At.region (L.op Z (aN (z := .pointer none) Z Z fun b4 => (L.nil (At.then (At.seq (At.region (L.op Z (aN (z := .int .i64 0) Z Z fun b5 => (L.nil (At.then (At.seq (At.block (At.seq ?_)))))))))))))))))))))
 refine At.region (L.mv Z Z (L.pure Z (cz Z Z) (L.as Z Z (L.nil (At.then (aj Z (At.seq (At.region (L.mv Z Z (L.pure Z (cO Z Z Z) ?_))))))))))
 refine L.op Z (ah Z Z Z hE (Af ⟨b, 0, none⟩ b4 (.pointer none)) (Ent.sel (.tail (.head))) ?_)
 rintro v m ⟨rfl, rfl⟩
 refine ai (L.mv Z Z (lT Z Z Z (ae Z) (lA Z Z Z (aa Z Z) (ag Z) (lT Z Z Z (am Z) (lT Z Z Z (ab (off := 0) Z Z) (lA Z Z Z (aa Z Z) (ag Z) (lT Z Z Z (cO Z Z Z) ?_)))))))
 refine L.on Z Z Z (ah Z Z Z hE (zz b e (.int .i64 a)) (Ent.sel (.tail (.tail (.head)))) ?_)
 rintro v m ⟨rfl, rfl⟩
 refine ai (L.pure Z (aq Z Z Z) (L.as Z Z (L.nil (At.then (aQ Z (At.seq (Dr.start Z (dL 0 Z Z (aa Z Z) (ag Z) (dP 1 Z Z (am Z) (dP 2 Z Z (ab (off := 0) Z Z) (dL 3 Z Z (aa Z Z) (ag Z) (dL 4 Z Z (aa Z Z) (ag Z) (dP 5 Z Z (am Z) (dP 6 Z Z (ab (off := 1) Z Z) (dL 7 Z Z (aa Z Z) (ag Z) (dP 8 Z Z (ax Z) (dP 9 Z Z (ax Z) (dE (At.then ?_)))))))))))))))))))
 exact At.ret (aB (aG (cU [_] rfl Z Z ⟨rfl, rfl⟩ (Ent.cons (Ent.drop.trans Ent.drop)))))
end Go.Proofs.YtmeegfamopaljaaGreatDoor
