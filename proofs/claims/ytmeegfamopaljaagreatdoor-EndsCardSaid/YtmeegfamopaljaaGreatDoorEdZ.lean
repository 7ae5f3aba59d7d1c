/- The walk of flow.Bound. -/
import Derived.Test.YtmeegfamopaljaaGreatDoorEdH
import Derived.Test.YtmeegfamopaljaaGreatDoorEdY
import Derived.Test.YtmeegfamopaljaaGreatDoorEdJ
import Derived.Test.YtmeegfamopaljaaGreatDoorEdR
import Derived.Test.YtmeegfamopaljaaGreatDoorEdF
namespace Go.Proofs.YtmeegfamopaljaaGreatDoor
open Go Go.RowKit
def bd (gap : Int) : List FK.Node → Int
 | [] => 0
 | n :: l => n.budget * (n.close + n.cap + n.jitter + gap) + bd gap l
theorem mN (gap : Int) (a b : List FK.Node) : bd gap (a ++ b) = bd gap a + bd gap b := by
 induction a with
 | nil => simp [bd]
 | cons n a ih => simp [bd, ih]; omega
theorem iz (gap : Int) (l : List FK.Node) (k : Nat) (h : k < l.length) : bd gap (l.take (k + 1)) = bd gap (l.take k) + l[k].budget * (l[k].close + l[k].cap + l[k].jitter + gap) := by
 rw [List.take_succ_eq_append_getElem h, mN]; simp [bd]
theorem xE {n : FK.Node} (h : FK.cf n) {gap : Int} (hg0 : 0 ≤ gap) (hg1 : gap ≤ 1048576) : 0 ≤ n.budget * (n.close + n.cap + n.jitter + gap) ∧ n.budget * (n.close + n.cap + n.jitter + gap) ≤ 20971520 := by
 obtain ⟨a1, a2, ⟨b1, b2⟩, ⟨c1, c2⟩, ⟨d1, d2⟩, ⟨e1, e2⟩, f1, f2⟩ := h
 have hs0 : 0 ≤ n.close + n.cap + n.jitter + gap := by omega
 have hs1 : n.close + n.cap + n.jitter + gap ≤ 4194304 := by omega
 refine ⟨Int.mul_nonneg (by omega) hs0, ?_⟩
 have := Int.mul_le_mul a2 hs1 hs0 (by omega)
 omega
set_option maxHeartbeats 1000000 in
theorem lZ (w : World) (B : Nat) (dl : Int) (A : Option Addr) (c : Nat) (l : List FK.Node) (gap : Int) (hB : B ≤ w.heap.size) (hn : NodesAt w B A c l) (hl : l.length ≤ 12)
 (ho : ∀ n ∈ l, FK.cf n) (hg0 : 0 ≤ gap) (hg1 : gap ≤ 1048576) :
 Calls Tryz.prog 129 #[.agg #[.int .i64 dl, .slice A l.length c], .int .i64 gap] w fun e w' => e = .returned (.int .i64 (min (bd gap l) dl)) ∧ Below w.heap.size w w' := by
 obtain ⟨h1, h2, h3⟩ := hn
 go_enter Tryz.func129, Tryz.ntmps129
 go_wp2
 go_loopw [5, 11] (fun s i wr => ∃ k : Nat, k ≤ l.length ∧ i = .int .i64 k ∧ s = .int .i64 (bd gap (l.take k)) ∧ 0 ≤ bd gap (l.take k) ∧ bd gap (l.take k) ≤ k * 20971520 ∧ Below w.heap.size w wr ∧ w.heap.size < wr.heap.size ∧ wr.cell? ⟨w.heap.size, 0, none⟩ = some (.int .i64 dl)) (fun _ i _ => l.length - (intOf i).toNat)
 case atStart => exact ⟨0, by omega, rfl, by simp [bd], by simp [bd], by simp [bd], (Below.refl _ _).alloc (Nat.le_refl _) _, by simp, by go_simp⟩
 case round =>
  obtain ⟨k, hk, rfl, rfl, hs0, hs1, hb, hz, hdl⟩ := hrel
  by_cases hlt : k < l.length
  · obtain ⟨b, off, rfl, hbB, hcell⟩ := h3 (by omega)
    have hnode := hcell k l[k] (by simp [hlt])
    have hnode := hnode.keep (hb.to_same.mono hB) hbB
    obtain ⟨c0, c1, c2, c3, c4, c5, ⟨A6, n6, c6, hi⟩, hr⟩ := hnode
    have hok := ho l[k] (List.getElem_mem _)
    have hterm := xE hok hg0 hg1
    have hnext := Lib.hid (iz gap l k hlt)
    obtain ⟨a1, a2, ⟨b1, b2⟩, ⟨d1, d2⟩, ⟨e1, e2⟩, ⟨f1, f2⟩, g1, g2⟩ := hok
    clear hcell h3 hr hi ho
    go_wp2
    go_roundw
    case rel => exact ⟨k + 1, by omega, by go_num, by rw [hnext.out], by rw [hnext.out]; omega, by rw [hnext.out]; omega, hb.alloc (by omega) _, by simp; omega, by go_simp⟩
    case measure => simp [intOf]; omega
  · have hke : List.take k l = l := List.take_of_length_le (by omega)
    rw [hke] at hs0 hs1 ⊢
    go_wp2
    all_goals (go_ret; exact ⟨mR (by omega), hb⟩)
end Go.Proofs.YtmeegfamopaljaaGreatDoor

namespace Go.Proofs.YtmeegfamopaljaaGreatDoor
open Go Go.RowKit Go.SL
variable {G : Env → Prop}
set_option maxRecDepth 10000 in
theorem qL (c : Value) : Does Tryz.prog G 266 [.slice none 0 0, .int .i64 0, .int .i64 0, c].toArray [] fun v m => v = .tuple #[] ∧ m = [] := by
 refine Does.body Tryz.func266 Z Z fun E fr hE => ?_
 refine ay (At.seq (At.region (L.mv Z Z (L.pure Z (aO (r := 1) Z Z Z) (L.as Z Z (L.nil (At.then (At.block ?_))))))))
 refine aT (X := Nat) (fun _ => [(8, .int .i64 1), (2, .int .i64 0)]) (fun _ => fr) (fun _ => True) (fun _ => 0) 0 trivial ⟨rfl, rfl, trivial⟩ (Ent.refl _) ?_
 intro k hk
 refine At.seq (At.seq (At.region (L.mv Z Z (L.mv Z Z (L.pure Z (bf Z Z Z) (L.nil (At.then (aj Z (At.exit (au (ar (an ?_))))))))))))
 exact aZ [] rfl ⟨rfl, rfl⟩ (Ent.refl _)
set_option maxRecDepth 10000 in
theorem wZ : Does Tryz.prog G 247 [.int .u64 0].toArray [] fun v m => v = .int .i64 0 ∧ m = [] := by
 refine Does.body Tryz.func247 Z Z fun E fr hE => ?_
 refine ay (At.seq (At.region (L.as Z Z (L.nil (At.then (At.seq (aj Z (At.skip (At.then (At.seq (At.region (L.mv Z Z ?_))))))))))))
 refine L.op Z (ah Z Z Z hE (n5 0 (by omega)) (Ent.refl _) ?_)
 rintro v m ⟨rfl, rfl⟩
 refine ay (L.as Z Z (L.nil (At.then (At.ret ?_))))
 exact aA [] rfl Z ⟨by show Value.int .i64 (dk 0 : Nat) = _; rfl, rfl⟩ (Ent.refl _)
set_option maxRecDepth 10000 in
theorem wI (c : Value) : Does Tryz.prog G 246 [.slice none 0 0, .int .i64 0, .int .i64 0, .int .i64 0, c].toArray [] fun v m => v = .tuple #[] ∧ m = [] := by
 refine Does.body Tryz.func246 Z Z fun E fr hE => ?_
 refine ay (At.seq (At.region (L.as Z Z (L.nil (At.then (At.seq (At.region (L.as Z Z (L.nil (At.then (At.block ?_)))))))))))
 refine aT (X := Nat) (fun _ => [(0, .slice none 0 0), (1, .int .i64 0), (2, .int .i64 0), (4, c)]) (fun _ => fr) (fun _ => True) (fun _ => 0) 0 trivial ⟨rfl, rfl, rfl, rfl, trivial⟩ (Ent.refl _) ?_
 intro k hk
 refine At.block (At.seq (At.region (L.mv Z Z (L.mv Z Z (L.pure Z (eQ (r := 0) Z Z Z) (L.as Z Z (L.nil (At.then (At.seq (At.seq (At.region (L.mv Z Z (L.pure Z (yD Z Z Z) (L.nil (At.then (aR Z (At.seq (At.region (L.mv Z Z ?_)))))))))))))))))))
 refine L.mv Z Z (L.mv Z Z (L.mv Z Z (L.op Z (ah Z Z Z hE (qL c) (Ent.refl _) ?_))))
 rintro v m ⟨rfl, rfl⟩
 refine ay (L.nil (At.then (At.ret (aI (aB (bT (aB ?_)))))))
 exact vQ [] rfl ⟨rfl, rfl⟩ (Ent.refl _)
set_option maxRecDepth 10000 in
theorem tQ (c : Value) : Does Tryz.prog G 217 [.slice none 0 0, c].toArray [] fun v m => v = .tuple #[] ∧ m = [] := by
 refine Does.body Tryz.func217 Z Z fun E fr hE => ?_
 refine ay (At.seq (At.region (L.mv Z Z (L.pure Z (aP Z Z) (L.as Z Z (L.nil (At.then (At.region (L.mv Z Z (L.mv Z Z (L.mv Z Z (L.pure Z (bq (r := 0) Z Z Z Z) (L.op Z (ah Z Z Z hE wZ (Ent.refl _) ?_))))))))))))))
 rintro v m ⟨rfl, rfl⟩
 refine ay (L.mv Z Z (L.op Z (ah Z Z Z hE (wI c) (Ent.refl _) ?_)))
 rintro v m ⟨rfl, rfl⟩
 refine ay (L.nil ?_)
 exact aZ [] rfl ⟨rfl, rfl⟩ (Ent.refl _)
set_option maxRecDepth 10000 in
theorem qK (c : Value) : Does Tryz.prog G 248 [.slice none 0 0, .int .i64 0, .int .i64 0, c].toArray [] fun v m => v = .tuple #[] ∧ m = [] := by
 refine Does.body Tryz.func248 Z Z fun E fr hE => ?_
 refine ay (At.seq (At.region (L.mv Z Z (L.pure Z (aO (r := 1) Z Z Z) (L.as Z Z (L.nil (At.then (At.block ?_))))))))
 refine aT (X := Nat) (fun _ => [(8, .int .i64 1), (2, .int .i64 0)]) (fun _ => fr) (fun _ => True) (fun _ => 0) 0 trivial ⟨rfl, rfl, trivial⟩ (Ent.refl _) ?_
 intro k hk
 refine At.seq (At.seq (At.region (L.mv Z Z (L.mv Z Z (L.pure Z (bf Z Z Z) (L.nil (At.then (aj Z (At.exit (au (ar (an ?_))))))))))))
 exact aZ [] rfl ⟨rfl, rfl⟩ (Ent.refl _)
set_option maxRecDepth 10000 in
theorem qB (c : Value) : Does Tryz.prog G 222 [.slice none 0 0, .int .i64 0, c].toArray [] fun v m => v = .tuple #[] ∧ m = [] := by
 refine Does.body Tryz.func222 Z Z fun E fr hE => ?_
 refine ay (At.seq (At.region (L.as Z Z (L.nil (At.then (At.seq (At.region (L.mv Z Z (L.as Z Z (L.as Z Z (L.nil (At.then (At.seq (At.block ?_))))))))))))))
 refine aT (X := Nat) (fun _ => [(8, .int .i64 20), (7, .int .i64 0), (6, .int .i64 20), (0, .slice none 0 0), (1, .int .i64 0), (2, c)]) (fun _ => fr) (fun _ => True) (fun _ => 0) 0 trivial ⟨rfl, rfl, rfl, rfl, rfl, rfl, trivial⟩ (Ent.refl _) ?_
 intro k hk
 refine At.seq (At.seq (At.region (L.mv Z Z (L.mv Z Z (L.pure Z (yD Z Z Z) (L.nil (At.then (aj Z (At.exit (au (ar (an (At.then (At.seq (At.region (L.mv Z Z (L.mv Z Z (L.mv Z Z (L.mv Z Z (L.op Z (ah Z Z Z hE (qK c) (Ent.refl _) ?_)))))))))))))))))))))
 rintro v m ⟨rfl, rfl⟩
 refine ay (L.nil (At.then (At.block ?_)))
 refine aT (X := Nat) (fun _ => [(6, .int .i64 20), (1, .int .i64 0)]) (fun _ => fr) (fun _ => True) (fun _ => 0) 0 trivial ⟨rfl, rfl, trivial⟩ (Ent.refl _) ?_
 intro k hk
 refine At.seq (At.seq (At.region (L.mv Z Z (L.mv Z Z (L.pure Z (bf Z Z Z) (L.nil (At.then (aj Z (At.exit (au (ar (an ?_))))))))))))
 exact aZ [] rfl ⟨rfl, rfl⟩ (Ent.refl _)
set_option maxRecDepth 10000 in
theorem qA (c : Value) : Does Tryz.prog G 190 [.slice none 0 0, c].toArray [] fun v m => v = .tuple #[] ∧ m = [] := by
 refine Does.body Tryz.func190 Z Z fun E fr hE => ?_
 refine ay (At.region (L.mv Z Z (L.mv Z Z (L.pure Z (aP Z Z) (L.mv Z Z (L.op Z (ah Z Z Z hE (qB c) (Ent.refl _) ?_)))))))
 rintro v m ⟨rfl, rfl⟩
 refine ay (L.nil ?_)
 exact aZ [] rfl ⟨rfl, rfl⟩ (Ent.refl _)
set_option maxRecDepth 10000 in
theorem xH {S : FK.WS} (w : Nat) (c : Value) (h : S.tms = []) : Does Tryz.prog G 183 [aL w, c].toArray [bw w S] fun v m => v = .tuple #[] ∧ m = [bw w S] := by
 refine Does.body Tryz.func183 Z Z fun E fr hE => ?_
 refine ai (dO .head fun sl mp => (At.seq (At.region (L.as Z Z (L.nil (At.then (At.seq (At.seq (At.region (L.mv Z Z (aN Z Z (aE 717 Z Z Z (L.val Z (aa Z Z) (ae (fM _ _ _ _ _)) (L.op Z (kK (b := mp) (m := fk S.tms) Z Z Z (.tail (.tail (.tail (.head)))) fun it => ?_)))))))))))))))
 refine At.ent (l' := ct fZ it mp (fk S.tms) [] none :: xM w S sl mp :: hZ sl S.bs :: gk S.tms :: fr) (by rw [show fk S.tms = [] by rw [h]; rfl]; exact Ent.refl _) ?_
 refine L.nil (At.then (At.block ?_))
 refine aT (X := Nat) (fun _ => [(13, .pointer (some ⟨it, 0, none⟩)), (4, .slice none 0 0), (1, c)]) (fun _ => ct fZ it mp (fk S.tms) [] none :: xM w S sl mp :: hZ sl S.bs :: gk S.tms :: fr) (fun _ => True) (fun _ => 0) 0 trivial ⟨rfl, rfl, rfl, trivial⟩ (Ent.refl _) ?_
 intro k hk
 refine At.seq (At.region ?_)
 refine L.op Z (jr Z Z .head (fun _ => ?_) (fun j q hj => by simp at hj))
 refine L.ex Z Z Z (L.nil (At.then (At.seq (aj Z (At.exit (au (ar (an (At.then (At.seq (At.region (L.mv Z Z (L.op Z (ah Z Z Z hE (tQ _) (Ent.refl _) ?_))))))))))))))
 rintro v m ⟨rfl, rfl⟩
 refine ay (L.nil (At.then (At.seq (At.region (L.mv Z Z (L.pure Z (aP Z Z) (L.mv Z Z (L.nil (At.then (At.block ?_))))))))))
 refine aT (X := Nat) (fun _ => [(26, .int .i64 0), (25, .int .i64 0)]) (fun _ => ct fZ it mp (fk S.tms) [] none :: xM w S sl mp :: hZ sl S.bs :: gk S.tms :: fr) (fun _ => True) (fun _ => 0) 0 trivial ⟨rfl, rfl, trivial⟩ (Ent.refl _) ?_
 intro k hk
 refine At.seq (At.region (L.pure Z (bf Z Z Z) (L.nil (At.then (At.seq (aj Z (At.exit (au (ar (an ?_))))))))))
 refine aZ [bw w S] rfl ⟨rfl, rfl⟩ ?_
 exact (Ent.ranged.trans (Ent.perm (by
  refine List.Perm.trans (List.perm_append_comm (l₁ := [bF fZ mp (fk S.tms)]) (l₂ := [xM w S sl mp, hZ sl S.bs, gk S.tms])|>.append_right fr) ?_
  exact List.Perm.refl _))).trans (bY (S := S) (sl := sl) (mp := mp))
theorem zU {e : Nat} {p : EA} {S : FK.En} (c : Value) (h : S.tms = []) : Does Tryz.prog G 183 [aL p.w, c].toArray [ap e p S] fun v m => v = .tuple #[] ∧ m = [ap e p S] := by
 refine hK fun W hW => (xH p.w c (by have := hW.tms; rw [h] at this; exact List.map_eq_nil_iff.1 this)).mono ?_
 rintro v m ⟨rfl, rfl⟩
 exact ⟨_, ⟨W, S.now, S.sets, S.tms, rfl, hW, rfl, rfl⟩, Ent.refl _⟩
set_option maxRecDepth 10000 in
theorem qz {e : Nat} {p : EA} {S : FK.En} (h : S.tms = []) : Does Tryz.prog G 132 [aL e].toArray [ap e p S] fun v m => v = .slice none 0 0 ∧ m = [ap e p S] := by
 refine Does.body Tryz.func132 Z Z fun E fr hE => ?_
 refine ai (At.seq (At.region (L.as Z Z (L.nil (At.then (At.seq (At.region (L.op Z (aH (z := .slice none 0 0) Z Z fun b3 => (L.nil (At.then (At.seq (At.region (L.mv Z Z (aN Z Z (aE 6 Z Z Z ?_))))))))))))))))
 refine L.val Z (aa Z Z) (aQ fun _ _ _ => rfl) ?_
 refine L.pure Z (ea Z Z) ?_
 refine L.op Z (ah Z Z Z hE (zU _ h) (Ent.sel (.tail .head)) ?_)
 rintro v m ⟨rfl, rfl⟩
 refine ai (L.nil (At.then (At.seq (At.region (aX Z Z Z Z (L.op Z (ah Z Z Z hE (qA _) (Ent.refl _) ?_)))))))
 rintro v m ⟨rfl, rfl⟩
 refine ay (L.nil (At.then (At.seq (At.region (aX Z Z Z Z (L.as Z Z (L.nil (At.then (At.ret ?_)))))))))
 exact aA [ap e p S] rfl Z ⟨rfl, rfl⟩ (Ent.cons Ent.drop)
set_option maxRecDepth 10000 in
theorem oG {f e : Nat} {jv : Value} {p : EA} {S : FK.En} (h : S.tms = []) : Does Tryz.prog Good 82 [aL f].toArray [gj f e jv, ap e p S] fun v m => v = .slice none 0 0 ∧ m = [gj f e jv, ap e p S] := by
 refine Does.body Tryz.func82 Z Z fun E fr hE => ?_
 refine aF (At.seq (At.region (L.as Z Z (L.nil (At.then (At.seq (At.region (L.mv Z Z (aN Z Z (aE 0 Z Z Z (aX Z Z Z Z (L.op Z (ah Z Z Z hE (qz h) (Ent.sel (.tail .head)) ?_)))))))))))))
 rintro v m ⟨rfl, rfl⟩
 refine ai (L.as Z Z (L.nil (At.then (At.ret ?_))))
 exact aA [gj f e jv, ap e p S] rfl Z ⟨rfl, rfl⟩ (Ent.sel (.tail .head))
set_option maxRecDepth 10000 in
theorem oF {h f e j d : Nat} {p : EA} {S : FK.En} {J : FK.Jn} {σ : FK.Dsk} (hn : S.tms = []) : Does Tryz.prog Good 36 [aL h].toArray (bW h f e j d p S J σ) fun v m => v = .slice none 0 0 ∧ m = bW h f e j d p S J σ := by
 refine Does.body Tryz.func36 Z Z fun E fr hE => ?_
 refine bV (At.seq (At.region (L.as Z Z (L.nil (At.then (At.seq (At.seq (At.region (L.mv Z Z (aN Z Z (aE 1 Z Z Z (aX Z Z Z Z (L.pure Z (dg Z Z Z) (L.nil (At.then (aj Z (At.skip (At.then (At.seq ?_)))))))))))))))))))
 refine At.region (L.mv Z Z (aN Z Z (aE 1 Z Z Z (aX Z Z Z Z (L.op Z (ah Z Z Z hE (oG hn) (aK (.tail .head) (.tail .head)) ?_))))))
 rintro v m ⟨rfl, rfl⟩
 refine aF (L.as Z Z (L.nil (At.then (At.ret ?_))))
 refine aA (bW h f e j d p S J σ) Z Z ⟨rfl, rfl⟩ ?_
 show Ent _ (bE h d f :: dA f e j :: ap e p S :: aD j d J :: ak d σ :: fr)
 exact ao
theorem pB {dl : Int} {ns : List FK.Node} (h : FK.Fit ⟨dl, ns⟩) : lb ns := ⟨by have h12 : ns.length ≤ 12 := h.head.2.2; omega, fun nd db => by
 obtain ⟨i, hi⟩ := List.getElem?_of_mem db
 have h1 := FK.ja _ _ (h.nodes i nd (FK.bx hi) hi).2
 have h2 : ns.length ≤ 12 := h.head.2.2
 simp only at h1
 omega⟩
theorem oH (dl : Int) (A : Option Addr) (c : Nat) (ns : List FK.Node) (gap : Int) (hl : ns.length ≤ 12) (ho : ∀ n ∈ ns, FK.cf n) (hg0 : 0 ≤ gap) (hg1 : gap ≤ 1048576) : Gives Tryz.prog G 129 [.agg #[.int .i64 dl, .slice A ns.length c], .int .i64 gap].toArray (fun w => NodesAt w w.heap.size A c ns) fun v m => v = .int .i64 (min (bd gap ns) dl) ∧ m = [] :=
 du fun _ w _ _ hN => lZ w w.heap.size dl A c ns gap (Nat.le_refl _) hN hl ho hg0 hg1
set_option maxRecDepth 10000 in
theorem oI (dl : Int) (A : Option Addr) (c : Nat) (ns : List FK.Node) (gap : Int) (hfit : FK.Fit ⟨dl, ns⟩) (hg0 : 0 ≤ gap) (hg1 : gap ≤ 1048576) : Gives Tryz.prog Good 80 [.agg #[.int .i64 dl, .slice A ns.length c], .int .i64 gap].toArray (fun w => NodesAt w w.heap.size A c ns) fun v m => v = .int .i64 (min (bd gap ns) dl) ∧ m = [] := by
 refine Gives.body Tryz.func80 Z Z fun E w0 hE h0 hN => ?_
 have hc0 : (FK.chk ⟨dl, ns⟩).1 = 0 := by rw [hfit.chk]
 have ho : ∀ n ∈ ns, FK.cf n := fun n hn => by
  obtain ⟨i, hi⟩ := List.getElem?_of_mem hn
  exact (hfit.nodes i n (FK.bx hi) hi).1
 refine At.seq (At.region (L.op Z (cc Z Z fun b2 => (L.as Z Z (L.nil (At.then (At.seq (At.seq (At.region (L.val Z (am (vs := [.int .i64 dl, .slice A ns.length c]) Z Z Z Z) (av Z) ?_))))))))))
 refine L.op Z (dC Z Z Z hE (gh ⟨dl, ns⟩ A c) (fe (.tail (.head)) h0 hN (Nat.le_refl _)) ?_)
 rintro v m hv
 obtain ⟨rfl, rfl⟩ := hv.ok hc0
 refine ay (L.pure Z (cb Z Z) (L.nil (At.then (aj Z (At.skip (At.then (At.seq (At.region (L.val Z (am (vs := [.int .i64 dl, .slice A ns.length c]) Z Z Z Z) (av Z) (L.mv Z Z ?_))))))))))
 refine L.pure Z (lG (r := gap) Z Z (by omega)) ?_
 refine L.pure Z (tt (r := gap) Z Z (by omega)) ?_
 refine L.op Z (dC Z Z Z hE (oH dl A c ns gap hfit.head.2.2 ho hg0 hg1) (fe (.tail (.head)) h0 hN (Nat.le_refl _)) ?_)
 rintro v m ⟨rfl, rfl⟩
 refine ay (L.as Z Z (L.nil (At.then (At.ret ?_))))
 exact aA [] rfl Z ⟨rfl, rfl⟩ Ent.drop
set_option maxRecDepth 10000 in
set_option maxHeartbeats 1000000 in
theorem oC (dl : Int) (A : Option Addr) (c : Nat) (ns : List FK.Node) (gap : Int) (hfit : FK.Fit ⟨dl, ns⟩) (hg0 : 0 ≤ gap) (hg1 : gap ≤ 1048576) : Gives Tryz.prog Good 33 [.agg #[.int .i64 dl, .slice A ns.length c], .int .i64 gap].toArray (fun w => NodesAt w w.heap.size A c ns) fun v m => v = .int .i64 (min (bd gap ns) dl) ∧ m = [] := by
 have hff := pB hfit
 refine Gives.body Tryz.func33 Z Z fun E w0 hE h0 hN => ?_
 refine At.seq (At.region (L.op Z (cc Z Z fun b2 => (L.as Z Z (L.nil (At.then (At.seq (At.region (L.val Z (am (vs := [.int .i64 dl, .slice A ns.length c]) Z Z Z Z) (av Z) (L.op Z (dC Z Z Z hE (ll dl A c ns hff) (fe (.tail (.head)) h0 hN (Nat.le_refl _)) ?_)))))))))))
 rintro v m ⟨A', c', rfl, rfl⟩
 refine ai (L.op Z (aH (z := .agg #[.int .i64 0, .slice none 0 0]) Z Z fun b5 => ?_))
 refine L.op Z (aG Z (m := 2) (vs := [.int .i64 dl, .slice A' ns.length c']) Z Z Z Z (by simp [Value.oneCell']) (by simp [Value.cells]) ?_)
 refine L.nil (At.then (At.seq (At.region (L.val Z (am (vs := [.int .i64 dl, .slice A' ns.length c']) Z Z Z Z) (av Z) (L.mv Z Z (L.op Z (dC Z Z Z hE (oI dl A' c' ns gap hfit hg0 hg1) (nodesOwn.at (.tail (.head)) hN.i64s) ?_)))))))
 rintro v m ⟨rfl, rfl⟩
 refine ay (L.as Z Z (L.nil (At.then (At.seq (At.region (L.val Z (am (vs := [.int .i64 dl, .slice A' ns.length c']) Z Z Z Z) (av Z) (L.op Z (ah Z Z Z hE (lJ dl A' c' ns) (Ent.sel (.tail (.head))) ?_))))))))
 rintro v m ⟨rfl, rfl⟩
 refine ay (L.nil (At.then (At.seq (At.region (L.mv Z Z (L.as Z Z (L.nil (At.then (At.ret ?_)))))))))
 exact aA [] rfl Z ⟨rfl, rfl⟩ (Ent.drop.trans Ent.drop)
end Go.Proofs.YtmeegfamopaljaaGreatDoor

namespace Go.SL
open Go Go.RowKit
section
variable {P : Program} {E : Env} {n : Nat} {D : List Deferred} {ts : List (Nat × Value)} {l : List HP} {ops : Array Oper} {Q : Exit → Act → World → Prop} {rest : List Oper} {i : Nat} {ty : TypeId} {pos : String} {af : Array Edge} {g : Option (Nat × Bool)}
end
end Go.SL

namespace FK
end FK
namespace Go.Proofs.YtmeegfamopaljaaGreatDoor
open Go Go.RowKit Go.SL
end Go.Proofs.YtmeegfamopaljaaGreatDoor

namespace FK
theorem rB : ∀ a A, o8.getR a = some A → A.state ≠ 1 := fun a A h => by
 unfold En.getR o8 at h
 rw [List.find?_cons] at h
 split at h
 · injection h with h
   subst h
   decide
 · cases h
theorem cut8 {S0 : En} (h : qX o8 S0) : S0 = o8 := h
structure Run2 (N : Nat) (F : Flow) (l : List (List UInt8)) (S : En) (R : Rn) : Prop where
 lone : Lone 2 F S R
 lg : Lg N l S
theorem Few.fine {n : Nat} {S : En} (h : Few n S) (hok : Ok S) (hn : n ≤ 10000000) : Fine S := ⟨hok, by have := h.sets; omega, by have := h.ends; omega, by have := h.tok; omega, by have := h.run; omega⟩
theorem Few.mono {n m : Nat} {S : En} (h : Few n S) (hm : n ≤ m) : Few m S := ⟨by have := h.sets; omega, by have := h.ends; omega, by have := h.tok; omega, by have := h.run; omega, by have := h.now; omega⟩
end FK
namespace Go.Proofs.YtmeegfamopaljaaGreatDoor
open Go Go.RowKit Go.SL
def xP (h : Nat) (dl : Int) (nv : Value) (run : Nat) (tv rv yv : Value) (irun : Nat) (ist : Int) (iv jv : Value) : List Value := [aL h, .int .i64 dl, nv, bc run, tv, rv, yv, bc irun, .int .i64 ist, iv, jv]
abbrev fH (w h : Nat) (dl : Int) (nv : Value) (run : Nat) (tv rv yv : Value) (irun : Nat) (ist : Int) (iv jv : Value) : HP := blk w 92 (xP h dl nv run tv rv yv irun ist iv jv).toArray
abbrev uR (l : List Nat) : List Value := l.map fun (n : Nat) => bc n
abbrev m9 (v : Value) (l : List Nat) : HP := row 51 1 v l.length (uR l)
theorem tx (n : Nat) : List.replicate n (.int .i64 0) = cI (List.replicate n 0) := by simp [cI]
theorem tw (n : Nat) : List.replicate n (.int .u64 0) = uR (List.replicate n 0) := by simp [uR]
theorem vz : fx Tryz.prog 51 (.int .u64 0) 1 8 := by unfold fx; kernel_rfl
theorem nS {a b n : Nat} {r : List HP} (h : n ≤ 12) : Ent (blk a 51 (List.replicate n (Value.int .u64 0)).toArray :: blk b 3 (List.replicate n (Value.int .i64 0)).toArray :: r) (m9 (.slice (some ⟨a, 0, none⟩) n n) (List.replicate n 0) :: bh (.slice (some ⟨b, 0, none⟩) n n) (List.replicate n 0) :: r) := by
 have hm : n ≤ maxLen := by unfold maxLen; omega
 show Ent _ (row 51 1 _ (List.replicate n 0).length (uR (List.replicate n 0)) :: row 3 1 _ (List.replicate n (0 : Int)).length (cI (List.replicate n 0)) :: r)
 rw [List.length_replicate, List.length_replicate, ← tw, ← tx]
 exact (cq (Nat.le_refl _) hm (by simp) (by rw [List.take_of_length_le (by simp)])).trans (Ent.cons (cq (Nat.le_refl _) hm (by simp) (by rw [List.take_of_length_le (by simp)])))
set_option maxRecDepth 20000 in
set_option maxHeartbeats 2000000 in
theorem tO (dl : Int) (ns : List FK.Node) (A : Option Addr) (c : Nat) (hfit : FK.Fit ⟨dl, ns⟩) : Does Tryz.prog Good 14 [.agg #[.int .i64 dl, .slice A ns.length c]].toArray [nodesOwn (.slice A ns.length c) ns] fun v m => ∃ w h f e j d p l R rv yv, v = aL w ∧ FK.Seen 2 ⟨dl, ns⟩ (FK.o8.submit ⟨dl, ns⟩) R (fun _ => 0) [] ∧ FK.Lg 3000 l (FK.o8.submit ⟨dl, ns⟩) ∧ m = fH w h dl (.slice A ns.length c) 2 (.slice none 0 0) rv yv 0 0 (.slice none 0 0) (.slice none 0 0) :: m9 rv (List.replicate ns.length 0) :: bh yv (List.replicate ns.length 0) :: nodesOwn (.slice A ns.length c) ns :: oT h f e j d p (FK.o8.submit ⟨dl, ns⟩) l := by
 have hff := pB hfit
 have hsm : ∀ n ∈ ns, (i64 n.budget ∧ i64 n.close ∧ i64 n.beat ∧ i64 n.base ∧ i64 n.cap ∧ i64 n.jitter) ∧ ∀ x ∈ n.after, i64 x := j6 hfit
 have h12 : ns.length ≤ 12 := hfit.head.2.2
 obtain ⟨R, hSeen, -, -⟩ := FK.Seen.begin FK.oQ (by decide) hfit rfl FK.rB
 refine Does.body Tryz.func14 Z Z fun E fr hE => ?_
 refine ai (At.seq (At.region (L.op Z (cc Z Z fun b1 => (L.as Z Z (L.nil (At.then (At.seq (At.region (L.op Z (ah Z Z Z hE qG (Ent.refl _) ?_)))))))))))
 rintro v m ⟨h, f, e, j, d, p, rfl, rfl⟩
 refine bV ?_
 obtain ⟨l0, hl0, hlg0⟩ := sz
 rw [hl0]
 refine L.as Z Z (L.nil (At.then (At.seq (At.seq (At.region (L.mv Z Z (L.pure Z (dg Z Z Z) (L.nil (At.then (aj Z (At.skip (At.then (At.seq ?_)))))))))))))
 refine At.ent (l' := nodesOwn (.slice A ns.length c) ns :: blk b1 29 #[.int .i64 dl, .slice A ns.length c] :: bE h d f :: dA f e j :: ap e p FK.o8 :: aD j d FK.J0 :: ak d (FK.cY l0 1) :: fr) (by show Ent (bE h d f :: dA f e j :: ap e p FK.o8 :: aD j d FK.J0 :: ak d (FK.cY l0 1) :: blk b1 29 #[.int .i64 dl, .slice A ns.length c] :: _) _; exact ao) ?_
 refine At.region (L.val Z (am (vs := [.int .i64 dl, .slice A ns.length c]) Z Z Z Z) (av Z) (L.op Z (dC Z Z Z hE (lf dl ns A c hff) (nodesOwn.at .head hsm) ?_)))
 rintro v m hv
 obtain ⟨bv, rfl, rfl⟩ : ∃ bv, v = .tuple #[bv, .int .i64 0, .int .i64 (-1)] ∧ m = [bM bv (FK.bL ⟨dl, ns⟩)] := by
  rcases hv with ⟨_, h⟩ | ⟨h, _⟩
  · exact h
  · exact absurd (by rw [hfit.chk]) h
 refine ai (aJ .head ?_)
 rintro A4 c4 rfl f1 f2 - - -
 obtain ⟨hreads, hnil⟩ := gZ f1 f2
 refine At.ent (l' := bE h d f :: dA f e j :: ap e p FK.o8 :: aD j d FK.J0 :: ak d (FK.cY l0 1) :: bM (.slice A4 (FK.bL ⟨dl, ns⟩).length c4) (FK.bL ⟨dl, ns⟩) :: nodesOwn (.slice A ns.length c) ns :: blk b1 29 #[.int .i64 dl, .slice A ns.length c] :: fr) ao ?_
 refine L.mv Z Z (L.ex Z Z Z (L.ex Z Z Z (L.ex Z Z Z (L.as Z Z (L.as Z Z (L.as Z Z (L.nil (At.then (At.seq (At.region (L.mv Z Z (L.mv Z Z (L.op Z (ah Z Z Z hE dV (Ent.refl _) ?_))))))))))))))
 rintro v m ⟨rfl, rfl⟩
 refine ay ?_
 refine L.op Z (ah Z Z Z hE (li (h := h) (f := f) (e := e) (j := j) (d := d) (p := p) (J := FK.J0) (σ := FK.cY l0 1) (bs := FK.bL ⟨dl, ns⟩) (fl := ⟨dl, ns⟩) FK.oQ (by decide) Z (jX hlg0 (by omega)) (FK.gD l0) hreads hnil (by have := hfit.encLen; omega) (FK.mY hfit) hfit Z (by decide) (by decide)) (Ent.refl _) ?_)
 rintro v m ⟨rfl, S0, p', hcut, rfl⟩
 refine m3 ?_
 obtain rfl := FK.cut8 hcut
 rw [show FK.J0.n = 0 from rfl, FK.rE]
 have hlen := hfit.encLen
 have hlg : FK.Lg 3000 (l0 ++ [1 :: FK.bL ⟨dl, ns⟩]) (FK.o8.submit ⟨dl, ns⟩) := by
  refine (hlg0.snoc ⟨FK.oQ, by decide, by decide, by decide, by decide⟩ (by simp only [List.length_cons]; omega) (FK.Redo.submit (FK.mY hfit) hfit (by omega) (show FK.qX FK.o8 FK.o8 from Z) (fun S1 h => FK.cut8 h))).mono (by simp only [List.length_cons]; omega)
 refine L.mv Z Z (L.ex Z Z Z (L.ex Z Z Z (L.ex Z Z Z (L.as Z Z (L.as Z Z (L.as Z Z (L.nil (At.then (At.seq (At.seq (At.region (L.mv Z Z (L.pure Z (cr Z Z Z) (L.mv Z Z (lT Z Z Z (ag Z) (lT Z Z Z (cr Z Z Z) (L.pure Z (aM Z Z Z) (L.nil (At.then ?_)))))))))))))))))))
 refine aj Z (At.skip (At.then (At.seq (Dr.start Z (dP 0 Z Z (ag Z) (dL 1 Z Z (am (vs := [.int .i64 dl, .slice A ns.length c]) Z Z Z Z) (av Z) (dP 2 Z Z (ag Z) (dP 3 Z Z (ab (off := 1) Z Z) (dL 4 Z Z (aa Z Z) (ae Z) (dP 5 Z Z (aP Z Z) (dP 7 Z Z (ab (off := 1) Z Z) (dL 8 Z Z (aa Z Z) (ae Z) (dP 9 Z Z (aP Z Z) ?_)))))))))))))
 refine gz 6 10 Z Z Z Z (by kernel_rfl) (pY (z := .int .u64 0) (bytes := 8) Z Z vz Z Z (by omega) (by omega) fun g39 => ?_) (pY (z := .int .i64 0) (bytes := 8) Z Z fy Z Z (by omega) (by omega) fun g43 => ?_)
 ·
  refine Dr.kept [true, true, true] (by kernel_rfl) (Kept.cons (ae Z) (Kept.cons (ae Z) (Kept.cons (av Z) Kept.nil))) ?_
  refine dR 10 Z Z (pY (z := .int .i64 0) (bytes := 8) Z Z fy Z Z (by omega) (by omega) fun g43 => ?_)
  refine Dr.kept [true, true, true] (by kernel_rfl) (Kept.cons (ae Z) (Kept.cons (ae Z) (Kept.cons (av Z) Kept.nil))) ?_
  refine dP 11 Z Z (bg (ps := [(0, .tmp 33), (1, .tmp 34), (2, .tmp 35), (4, .tmp 39), (5, .tmp 43)]) (vs := [aL h, .agg #[.int .i64 dl, .slice A ns.length c], bc 2, .slice (some ⟨g39, 0, none⟩) ns.length ns.length, .slice (some ⟨g43, 0, none⟩) ns.length ns.length]) (cs := (xP h dl (.slice A ns.length c) 2 (.slice none 0 0) (.slice (some ⟨g39, 0, none⟩) ns.length ns.length) (.slice (some ⟨g43, 0, none⟩) ns.length ns.length) 0 0 (.slice none 0 0) (.slice none 0 0)).toArray) Z Z Z Z Z) ?_
  refine dR 12 Z Z (cc Z Z fun b45 => ?_)
  refine Dr.kept [true, true, true] (by kernel_rfl) (Kept.cons (ae Z) (Kept.cons (ae Z) (Kept.cons (av Z) Kept.nil))) ?_
  refine dP 13 Z Z (az Z) (dE (At.then (At.ret ?_)))
  refine ax b45 (xP h dl (.slice A ns.length c) 2 (.slice none 0 0) (.slice (some ⟨g39, 0, none⟩) ns.length ns.length) (.slice (some ⟨g43, 0, none⟩) ns.length ns.length) 0 0 (.slice none 0 0) (.slice none 0 0)).toArray Z ?_
  refine At.ent (l' := fH b45 h dl (.slice A ns.length c) 2 (.slice none 0 0) (.slice (some ⟨g39, 0, none⟩) ns.length ns.length) (.slice (some ⟨g43, 0, none⟩) ns.length ns.length) 0 0 (.slice none 0 0) (.slice none 0 0) :: blk g39 51 (List.replicate ns.length (Value.int .u64 0)).toArray :: blk g43 3 (List.replicate ns.length (Value.int .i64 0)).toArray :: nodesOwn (.slice A ns.length c) ns :: bE h d f :: dA f e j :: ap e p' (FK.o8.submit ⟨dl, ns⟩) :: aD j d FK.J0 :: ak d (FK.cY (l0 ++ [1 :: FK.bL ⟨dl, ns⟩]) 1) :: fr) ao ?_
  refine At.ent (Ent.cons (nS h12)) ?_
  exact aA (fH b45 h dl (.slice A ns.length c) 2 (.slice none 0 0) (.slice (some ⟨g39, 0, none⟩) ns.length ns.length) (.slice (some ⟨g43, 0, none⟩) ns.length ns.length) 0 0 (.slice none 0 0) (.slice none 0 0) :: m9 (.slice (some ⟨g39, 0, none⟩) ns.length ns.length) (List.replicate ns.length 0) :: bh (.slice (some ⟨g43, 0, none⟩) ns.length ns.length) (List.replicate ns.length 0) :: nodesOwn (.slice A ns.length c) ns :: oT h f e j d p' (FK.o8.submit ⟨dl, ns⟩) (l0 ++ [1 :: FK.bL ⟨dl, ns⟩])) Z Z ⟨b45, h, f, e, j, d, p', _, R, _, _, rfl, hSeen, hlg, rfl⟩ (Ent.refl _)
 ·
  refine Dr.kept [true, true, true] (by kernel_rfl) (Kept.cons (ae Z) (Kept.cons (ae Z) (Kept.cons (av Z) Kept.nil))) ?_
  refine dR 6 Z Z (pY (z := .int .u64 0) (bytes := 8) Z Z vz Z Z (by omega) (by omega) fun g39 => ?_)
  refine Dr.kept [true, true, true] (by kernel_rfl) (Kept.cons (ae Z) (Kept.cons (ae Z) (Kept.cons (av Z) Kept.nil))) ?_
  refine dP 11 Z Z (bg (ps := [(0, .tmp 33), (1, .tmp 34), (2, .tmp 35), (4, .tmp 39), (5, .tmp 43)]) (vs := [aL h, .agg #[.int .i64 dl, .slice A ns.length c], bc 2, .slice (some ⟨g39, 0, none⟩) ns.length ns.length, .slice (some ⟨g43, 0, none⟩) ns.length ns.length]) (cs := (xP h dl (.slice A ns.length c) 2 (.slice none 0 0) (.slice (some ⟨g39, 0, none⟩) ns.length ns.length) (.slice (some ⟨g43, 0, none⟩) ns.length ns.length) 0 0 (.slice none 0 0) (.slice none 0 0)).toArray) Z Z Z Z Z) ?_
  refine dR 12 Z Z (cc Z Z fun b45 => ?_)
  refine Dr.kept [true, true, true] (by kernel_rfl) (Kept.cons (ae Z) (Kept.cons (ae Z) (Kept.cons (av Z) Kept.nil))) ?_
  refine dP 13 Z Z (az Z) (dE (At.then (At.ret ?_)))
  refine ax b45 (xP h dl (.slice A ns.length c) 2 (.slice none 0 0) (.slice (some ⟨g39, 0, none⟩) ns.length ns.length) (.slice (some ⟨g43, 0, none⟩) ns.length ns.length) 0 0 (.slice none 0 0) (.slice none 0 0)).toArray Z ?_
  refine At.ent (l' := fH b45 h dl (.slice A ns.length c) 2 (.slice none 0 0) (.slice (some ⟨g39, 0, none⟩) ns.length ns.length) (.slice (some ⟨g43, 0, none⟩) ns.length ns.length) 0 0 (.slice none 0 0) (.slice none 0 0) :: blk g39 51 (List.replicate ns.length (Value.int .u64 0)).toArray :: blk g43 3 (List.replicate ns.length (Value.int .i64 0)).toArray :: nodesOwn (.slice A ns.length c) ns :: bE h d f :: dA f e j :: ap e p' (FK.o8.submit ⟨dl, ns⟩) :: aD j d FK.J0 :: ak d (FK.cY (l0 ++ [1 :: FK.bL ⟨dl, ns⟩]) 1) :: fr) ao ?_
  refine At.ent (Ent.cons (nS h12)) ?_
  exact aA (fH b45 h dl (.slice A ns.length c) 2 (.slice none 0 0) (.slice (some ⟨g39, 0, none⟩) ns.length ns.length) (.slice (some ⟨g43, 0, none⟩) ns.length ns.length) 0 0 (.slice none 0 0) (.slice none 0 0) :: m9 (.slice (some ⟨g39, 0, none⟩) ns.length ns.length) (List.replicate ns.length 0) :: bh (.slice (some ⟨g43, 0, none⟩) ns.length ns.length) (List.replicate ns.length 0) :: nodesOwn (.slice A ns.length c) ns :: oT h f e j d p' (FK.o8.submit ⟨dl, ns⟩) (l0 ++ [1 :: FK.bL ⟨dl, ns⟩])) Z Z ⟨b45, h, f, e, j, d, p', _, R, _, _, rfl, hSeen, hlg, rfl⟩ (Ent.refl _)
end Go.Proofs.YtmeegfamopaljaaGreatDoor

namespace FK
def cx (R : Rn) : Nat := (R.steps.map fun s => s.tries.toNat).sum
theorem oY {ends : Nat} {R : Rn} (h : RnOk ends R) : cx R ≤ 60 := by
 have h1 : ∀ (l : List Nat), (∀ x ∈ l, x ≤ 5) → l.sum ≤ 5 * l.length := by
  intro l
  induction l with
  | nil => intro _; simp
  | cons a l ih =>
   intro h
   have h1 := h a (List.mem_cons_self)
   have h2 := ih fun x hx => h x (List.mem_cons_of_mem _ hx)
   simp only [List.sum_cons, List.length_cons]
   omega
 have h2 := h1 (R.steps.map fun s => s.tries.toNat) fun x hx => by
  obtain ⟨s, hs, rfl⟩ := List.mem_map.1 hx
  obtain ⟨k, hk⟩ := List.getElem?_of_mem hs
  have hlt : k < R.fl.nodes.length := by rw [← h.len]; exact (List.getElem?_eq_some_iff.1 hk).1
  have hn : R.fl.nodes[k]? = some (R.fl.nodes[k]) := List.getElem?_eq_getElem hlt
  have hb := (h.sp k s _ hk hn).trb
  have hno := (h.fl.nodes k _ hlt hn).1.2.1
  omega
 rw [List.length_map, h.len] at h2
 have := h.fl.head.2.2
 unfold cx
 omega
theorem oZ {R R' : Rn} (h : R'.steps.map (·.tries) = R.steps.map (·.tries)) : cx R' = cx R := by
 have e : ∀ A : Rn, (A.steps.map fun s => s.tries.toNat) = (A.steps.map (·.tries)).map Int.toNat := fun A => by rw [List.map_map]; rfl
 unfold cx
 rw [e, e, h]
theorem rl : ∀ {l : List Nat} {k x y : Nat}, l[k]? = some x → (l.set k y).sum + x = l.sum + y
 | [], _, _, _, h => by simp at h
 | a :: l, 0, x, y, h => by simp at h; subst h; simp; omega
 | a :: l, k + 1, x, y, h => by
  have := rl (y := y) (by simpa using h : l[k]? = some x)
  simp only [List.set_cons_succ, List.sum_cons]
  omega
theorem se {R : Rn} {k tok : Nat} {s : Sp} (hs : R.steps[k]? = some s) (h0 : 0 ≤ s.tries) : cx (R.setS k ⟨3, s.tries + 1, tok⟩) = cx R + 1 := by
 unfold cx Rn.setS
 simp only
 rw [List.map_set]
 show ((R.steps.map fun s => s.tries.toNat).set k (s.tries + 1).toNat).sum = _
 have := rl (l := R.steps.map fun s => s.tries.toNat) (k := k) (x := s.tries.toNat) (y := (s.tries + 1).toNat) (by rw [List.getElem?_map, hs]; rfl)
 omega
theorem rn : ∀ {a b : List Nat}, a.length = b.length → (∀ (k x y : Nat), a[k]? = some x → b[k]? = some y → x ≤ y) → a.sum ≤ b.sum
 | [], [], _, _ => Nat.le_refl _
 | [], _ :: _, h, _ => by simp at h
 | _ :: _, [], h, _ => by simp at h
 | x :: a, y :: b, h, hk => by
  have h1 := hk 0 x y rfl rfl
  have h2 := rn (a := a) (b := b) (by simpa using h) fun k u v hu hv => hk (k + 1) u v (by simpa using hu) (by simpa using hv)
  simp only [List.sum_cons]
  omega
theorem sc {R R' : Rn} (h : Wt R R') : cx R ≤ cx R' := by
 refine rn (by simp [h.len]) fun k x y hx hy => ?_
 rw [List.getElem?_map] at hx hy
 cases hs : R.steps[k]? with
 | none => rw [hs] at hx; cases hx
 | some s =>
  cases hs' : R'.steps[k]? with
  | none => rw [hs'] at hy; cases hy
  | some s' =>
   rw [hs] at hx
   rw [hs'] at hy
   injection hx with hx
   injection hy with hy
   subst hx; subst hy
   have := (h.tr k s s' hs hs').1
   show s.tries.toNat ≤ s'.tries.toNat
   omega
theorem Ok.find_of {S : En} (h : Ok S) {id k : Nat} {R : Rn} {s : Sp} (hR : S.getR id = some R) (hs : R.steps[k]? = some s) (h3 : s.state = 3) : (S.tasks.find? (·.1 == s.token)).map (·.2) = some ⟨id, (k : Int), 0⟩ := by
 have hm := h.task hR hs h3
 cases hf : S.tasks.find? (·.1 == s.token) with
 | none =>
  have := List.find?_eq_none.1 hf _ hm
  simp at this
 | some x =>
  have h1 := List.mem_of_find?_eq_some hf
  have h2 := List.find?_some hf
  have : x = (s.token, ⟨id, (k : Int), 0⟩) := eg h.tkeys h1 hm (by simpa using h2)
  rw [this]
  rfl
structure EndSt (F : Flow) (polls : Bool) (g D : Nat) (sum : Int) (l : List (List UInt8)) (S : En) (R : Rn) (t : Nat) : Prop where
 drv : Drv 2 F polls g 3 D sum S R t
 lg : Lg (3000 + 40 * (t + 2 * cx R)) l S
 few : Few (t + 2 * cx R) S
section
variable {F : Flow} {polls : Bool} {g D : Nat} {sum : Int} {l : List (List UInt8)} {S : En} {R : Rn} {t : Nat}
theorem EndSt.small (h : EndSt F polls g D sum l S R t) (ht : t ≤ 2000000) : t + 2 * cx R ≤ 3000000 := by
 have := oY (h.drv.lone.ok.run 2 R h.drv.lone.get)
 omega
theorem EndSt.fine (h : EndSt F polls g D sum l S R t) (ht : t ≤ 2000000) : Fine S := h.few.fine h.drv.lone.ok (by have := h.small ht; omega)
structure Handed (F : Flow) (polls : Bool) (g D : Nat) (sum : Int) (l : List (List UInt8)) (S : En) (R : Rn) (t i : Nat) : Prop where
 drv : Drv 2 F polls g 3 D sum S R t
 lg : Lg (3000 + 40 * i + 31) l S
 few : Few (i + 1) S
 i : i + 2 = t + 2 * cx R
theorem EndSt.poll (h : EndSt F polls g D sum l S R t) (ht : t ≤ 2000000) (h0 : t % g = 0) {k : Nat} {q : List Pl} {s : Sp} {n : Node} (hq : S.queue = ⟨2, (k : Int), 0⟩ :: q) (hs : R.steps[k]? = some s) (h2 : s.state = 2) (hn : R.fl.nodes[k]? = some n) :
 Handed F polls g D sum (l ++ [aY 2 0]) (S.hand ⟨2, (k : Int), 0⟩ q R s n) (R.setS k ⟨3, s.tries + 1, S.lastToken + 1⟩) t (t + 2 * cx R) := by
 have hL := h.drv.lone
 have hm := hL.ok.hand_mv hq hL.get hs hn hL.hon
 obtain ⟨_, _, hp⟩ := hL.ok.node hL.get hs
 refine ⟨h.drv.poll (by omega) h0 hq hs h2 hn, h.lg.note (h.fine ht) (by decide) (Redo.poll hq hL.get hs hn), ⟨?_, ?_, ?_, ?_, ?_⟩, by rw [se hs hp.tr0]; omega⟩
 · have := h.few.sets; have := hm.sets; omega
 · have := h.few.ends; have := hm.ends; omega
 · have := h.few.tok; have := hm.lastToken; omega
 · rw [hm.lastRun]; exact h.few.run
 · rw [hm.now]; have := h.few.now; omega
theorem Handed.none {i : Nat} (h : Handed F polls g D sum l S R t i) : EndSt F polls g D sum l S R t := ⟨h.drv, h.lg.mono (by have := h.i; omega), h.few.mono (by have := h.i; omega)⟩
theorem Handed.complete {i : Nat} (h : Handed F polls g D sum l S R t i) (hi : i ≤ 3000000) {tok k : Nat} {s : Sp} (hlt : tok < 18446744073709551616) (ht : (S.tasks.find? (·.1 == tok)).map (·.2) = some ⟨2, (k : Int), 0⟩) (hs : R.steps[k]? = some s) (h3 : s.state = 3) : ∃ R', EndSt F polls g D sum (l ++ [aY 4 tok]) (S.complete tok) R' t ∧ cx R' = cx R := by
 have hL := h.drv.lone
 obtain ⟨R', h1, h2⟩ := h.drv.complete ht hs h3
 have e := oZ h2
 obtain ⟨R2, hm, -⟩ := hL.ok.complete_mv ht hL.get hs h3 hL.hon
 refine ⟨R', ⟨h1, (h.lg.note (h.few.fine hL.ok (by omega)) hlt (Redo.complete hlt ht)).mono (by have := h.i; omega), ?_⟩, e⟩
 rw [e, ← h.i]
 refine ⟨?_, ?_, ?_, ?_, ?_⟩
 · have := h.few.sets; have := hm.sets; omega
 · have := h.few.ends; have := hm.ends; omega
 · have := h.few.tok; have := hm.lastToken; omega
 · rw [hm.lastRun]; exact h.few.run
 · rw [hm.now]; have := h.few.now; omega
theorem Handed.fail {i : Nat} (h : Handed F polls g D sum l S R t i) (hi : i ≤ 3000000) (htt : t ≤ 2000000) {tok k : Nat} {s : Sp} (hlt : tok < 18446744073709551616) (ht : (S.tasks.find? (·.1 == tok)).map (·.2) = some ⟨2, (k : Int), 0⟩) (hs : R.steps[k]? = some s) (h3 : s.state = 3) : ∃ R', EndSt F polls g D sum (l ++ [aY 5 tok]) (S.fail tok) R' t ∧ cx R' = cx R := by
 have hL := h.drv.lone
 obtain ⟨R', h1, h2⟩ := h.drv.fail (by omega) ht hs h3
 have e := oZ h2
 obtain ⟨R2, s2, n2, hn2, hs2, htr2, hst2, new, hm, -⟩ := hL.failed hs h3
 rw [← kO ht] at hm
 refine ⟨R', ⟨h1, (h.lg.note (h.few.fine hL.ok (by omega)) hlt (Redo.fail hlt ht)).mono (by have := h.i; omega), ?_⟩, e⟩
 rw [e, ← h.i]
 refine ⟨?_, ?_, ?_, ?_, ?_⟩
 · have := h.few.sets; have := hm.sets; omega
 · have := h.few.ends; have := hm.ends; omega
 · have := h.few.tok; have := hm.lastToken; omega
 · rw [hm.lastRun]; exact h.few.run
 · rw [hm.now]; have := h.few.now; omega
theorem EndSt.tick (h : EndSt F polls g D sum l S R t) (ht : t ≤ 2000000) (hg : 0 < g) (hq : polls = true → t % g = 0 → S.queue = []) {U : En} (hU : Ticks (S.later 1) S U) : ∃ R', EndSt F polls g D sum (l ++ [aY 7 1]) U R' (t + 1) := by
 obtain ⟨R', h1, h2, h3⟩ := h.drv.tick hg (by omega) hq hU
 have hL := h.drv.lone
 have hup : S.later 1 = S.now + 1 := by unfold En.later; rw [h.drv.now]; omega
 have hU' := hU
 rw [hup] at hU'
 obtain ⟨R2, hgo, -⟩ := hU'.go (Nat.le_succ _) (by rw [h.drv.now]; omega) hL
 have : R2 = R' := Option.some.inj (hgo.lone.get.symm.trans h1.lone.get)
 subst this
 have hmono := sc hgo.wt
 obtain ⟨b1, b2, b3, b4⟩ := hU.bound hL.ok
 have hmass := hL.ok.massLe
 refine ⟨R2, h1, (h.lg.note (h.fine ht) (by decide) (Redo.tick (by decide) hU)).mono (by omega), ⟨?_, ?_, ?_, ?_, ?_⟩⟩
 · have := h.few.sets; omega
 · have := h.few.ends; omega
 · have := h.few.tok; omega
 · rw [b4]; exact h.few.run
 · rw [h2]; have := h.few.now; omega
end
end FK
namespace FK
structure Tk where
 run : Nat
 node : Int
 tri : Int
 tok : Nat
def yH (F : Flow) (polls : Bool) (g D : Nat) (sum : Int) (l : List (List UInt8)) (S : En) (R : Rn) (t : Nat) (ok : Bool) (S1 : En) (R1 : Rn) (l1 : List (List UInt8)) (x : Tk) : Prop :=
 (ok = false ∧ S.queue = [] ∧ S1 = S ∧ l1 = l ∧ R1 = R) ∨ (ok = true ∧ Handed F polls g D sum l1 S1 R1 t (t + 2 * cx R) ∧ x.tok < 18446744073709551616 ∧ ∃ (k : Nat) (s : Sp), (S1.tasks.find? (·.1 == x.tok)).map (·.2) = some ⟨2, (k : Int), 0⟩ ∧ R1.steps[k]? = some s ∧ s.state = 3)
end FK
namespace Go.Proofs.YtmeegfamopaljaaGreatDoor
open Go Go.RowKit Go.SL
theorem kx (c : Int) (n : Nat) (hc : i64 c) (hn : 0 < n) (hn2 : n < 9223372036854775808) : Does Tryz.prog Good 19 [.int .i64 c, .int .i64 n].toArray [] fun v m => ∃ k : Nat, v = .int .i64 k ∧ k < n ∧ m = [] :=
 (dt c n hc hn hn2).mono fun v m ⟨k, hv, ⟨h0, h1⟩, hm⟩ => ⟨m, ⟨k.toNat, by rw [hv, Int.toNat_of_nonneg h0], by omega, hm⟩, Ent.refl _⟩
theorem fh {x a b c d e : HP} {r : List HP} : Ent (x :: a :: b :: c :: d :: e :: r) ([a, b, c, d, e] ++ (x :: r)) := by
 show Ent _ (a :: b :: c :: d :: e :: x :: r)
 exact ao
set_option maxRecDepth 20000 in
set_option maxHeartbeats 10000000 in
theorem uE {w h f e j d bb : Nat} {p : EA} {S0 : FK.En} {R0 : FK.Rn} {l0 : List (List UInt8)} {F : FK.Flow} {polls : Bool} {g D : Nat} {sum dl ist what : Int} {irun bit0 t : Nat} {nv tv rv yv iv jv : Value}
 (hwhat : i64 what) (h0 : FK.EndSt F polls g D sum l0 S0 R0 t) (htt : t ≤ 2000000) (ht0 : t % g = 0) (hbit0 : bit0 < 18446744073709551616) :
 Does Tryz.prog Good 34 [aL w, .int .i64 what, aL bb].toArray (oT h f e j d p S0 l0 ++ [fH w h dl nv 2 tv rv yv irun ist iv jv, blk bb 87 #[.int .u64 ((bit0 : Nat) : Int)]])
  fun v m => v = .bool true ∧ ∃ S' R' l' bit', bit' < 18446744073709551616 ∧ FK.EndSt F polls g D sum l' S' R' t ∧ S'.queue = [] ∧ m = oT h f e j d p S' l' ++ [fH w h dl nv 2 tv rv yv irun ist iv jv, blk bb 87 #[.int .u64 ((bit' : Nat) : Int)]] := by
 refine Does.body Tryz.func34 Z Z fun E fr hE => ?_
 refine At.ent (l' := bE h d f :: dA f e j :: ap e p S0 :: aD j d FK.J0 :: ak d (FK.cY l0 1) :: fH w h dl nv 2 tv rv yv irun ist iv jv :: blk bb 87 #[.int .u64 ((bit0 : Nat) : Int)] :: fr) (Ent.refl _) (At.seq (At.region (L.as Z Z (L.nil (At.then (At.block ?_))))))
 refine aT (X := FK.En × FK.Rn × List (List UInt8) × Nat) (fun _ => [(6, .bool false), (2, aL bb), (1, .int .i64 what), (0, aL w)]) (fun x => bE h d f :: dA f e j :: ap e p x.1 :: aD j d FK.J0 :: ak d (FK.cY x.2.2.1 1) :: fH w h dl nv 2 tv rv yv irun ist iv jv :: blk bb 87 #[.int .u64 ((x.2.2.2 : Nat) : Int)] :: fr) (fun x => FK.EndSt F polls g D sum x.2.2.1 x.1 x.2.1 t ∧ x.2.2.2 < 18446744073709551616) (fun x => 60 - FK.cx x.2.1) (S0, R0, l0, bit0) ⟨h0, hbit0⟩ ⟨rfl, rfl, rfl, rfl, trivial⟩ (Ent.refl _) ?_
 rintro ⟨S, R, l, bit⟩ ⟨hS, hbit⟩
 replace hS : FK.EndSt F polls g D sum l S R t := hS
 replace hbit : bit < 18446744073709551616 := hbit
 refine At.ent (l' := bE h d f :: dA f e j :: ap e p S :: aD j d FK.J0 :: ak d (FK.cY l 1) :: fH w h dl nv 2 tv rv yv irun ist iv jv :: blk bb 87 #[.int .u64 ((bit : Nat) : Int)] :: fr) (Ent.refl _) ?_
 have hL := hS.drv.lone
 have hroom := jX hS.lg (by have := hS.small htt; omega)
 have hquiet := FK.gD l
 have hsm := hS.small htt
 have f1 := hS.few.sets
 have f2 := hS.few.ends
 have f3 := hS.few.tok
 refine At.block ?_
 refine At.seq (At.cut (X := Nat × Bool × FK.En × FK.Rn × List (List UInt8) × FK.Tk) (fun x => [(9, .int .i64 0), (8, .bool x.2.1), (7, aL x.1), (6, .bool false), (2, aL bb), (1, .int .i64 what), (0, aL w)]) (fun x => bE h d f :: dA f e j :: ap e p x.2.2.1 :: aD j d FK.J0 :: ak d (FK.cY x.2.2.2.2.1 1) :: blk x.1 55 (bo x.2.2.2.2.2.run x.2.2.2.2.2.node x.2.2.2.2.2.tri x.2.2.2.2.2.tok).toArray :: fH w h dl nv 2 tv rv yv irun ist iv jv :: blk bb 87 #[.int .u64 ((bit : Nat) : Int)] :: fr) (fun x => FK.yH F polls g D sum l S R t x.2.1 x.2.2.1 x.2.2.2.1 x.2.2.2.2.1 x.2.2.2.2.2) ?_ ?_)
 ·
  by_cases HQ : S.queue = []
  ·
   refine Dr.start Z (dP 0 Z Z (ag Z) (dP 1 Z Z (aq Z) (dP 2 Z Z (ab (off := 0) Z Z) (dL 3 Z Z (aa Z Z) (ae Z) ?_))))
   refine gz 4 10 Z Z Z Z (by kernel_rfl) (ah Z Z Z hE dV (Ent.refl _) ?_) (aH (z := .agg #[.int .u64 0, .int .i64 0, .int .i64 0, .int .u64 0]) Z Z fun b7 => ?_)
   ·
    rintro v m ⟨rfl, rfl⟩
    refine ay ?_
    refine Dr.kept [true] (by kernel_rfl) (Kept.cons (ae Z) Kept.nil) ?_
    refine gz 5 10 Z Z Z Z (by kernel_rfl) (ah Z Z Z hE (ij hquiet HQ) (by first | exact Ent.refl _ | exact fh) ?_) (aH (z := .agg #[.int .u64 0, .int .i64 0, .int .i64 0, .int .u64 0]) Z Z fun b7 => ?_)
    ·
     rintro v m ⟨rfl, rfl⟩
     refine bV ?_
     refine Dr.kept [false] (by kernel_rfl) Kept.nil ?_
     refine dP 6 Z Z (ag Z) (dP 7 Z Z (aU Z Z) (dP 8 Z Z (aU Z Z) (dP 9 Z Z (aU Z Z) (dR 10 Z Z (aH (z := .agg #[.int .u64 0, .int .i64 0, .int .i64 0, .int .u64 0]) Z Z fun b7 => ?_)))))
     refine Dr.kept [] (by kernel_rfl) Kept.nil ?_
     refine dR 11 Z Z (aG Z (m := 4) (vs := bo 0 0 0 0) Z Z Z Z (by simp [Value.oneCell']) (by show 0 + 4 ≤ 4; omega) ?_)
     refine ax b7 (bo 0 0 0 0).toArray Z ?_
     refine Dr.kept [] (by kernel_rfl) Kept.nil ?_
     refine dP 12 Z Z (az Z) (dP 13 Z Z (az Z) (dE ?_))
     exact bk (b7, false, S, R, l, ⟨0, 0, 0, 0⟩) (.inl ⟨rfl, HQ, rfl, rfl, rfl⟩) ⟨rfl, rfl, rfl, rfl, rfl, rfl, rfl, trivial⟩ ao
    ·
     refine Dr.kept [true] (by kernel_rfl) (Kept.cons (ae Z) Kept.nil) ?_
     refine dR 5 Z Z (ah Z Z Z hE (ij hquiet HQ) (by first | exact Ent.refl _ | exact fh) ?_)
     rintro v m ⟨rfl, rfl⟩
     refine bV ?_
     refine Dr.kept [false] (by kernel_rfl) Kept.nil ?_
     refine dP 6 Z Z (ag Z) (dP 7 Z Z (aU Z Z) (dP 8 Z Z (aU Z Z) (dP 9 Z Z (aU Z Z) ?_)))
     refine dR 11 Z Z (aG Z (m := 4) (vs := bo 0 0 0 0) Z Z Z Z (by simp [Value.oneCell']) (by show 0 + 4 ≤ 4; omega) ?_)
     refine ax b7 (bo 0 0 0 0).toArray Z ?_
     refine Dr.kept [] (by kernel_rfl) Kept.nil ?_
     refine dP 12 Z Z (az Z) (dP 13 Z Z (az Z) (dE ?_))
     exact bk (b7, false, S, R, l, ⟨0, 0, 0, 0⟩) (.inl ⟨rfl, HQ, rfl, rfl, rfl⟩) ⟨rfl, rfl, rfl, rfl, rfl, rfl, rfl, trivial⟩ ao
   ·
    refine Dr.kept [true] (by kernel_rfl) (Kept.cons (ae Z) Kept.nil) ?_
    refine dR 4 Z Z (ah Z Z Z hE dV (Ent.refl _) ?_)
    rintro v m ⟨rfl, rfl⟩
    refine ay ?_
    refine Dr.kept [true] (by kernel_rfl) (Kept.cons (ae Z) Kept.nil) ?_
    refine dR 5 Z Z (ah Z Z Z hE (ij hquiet HQ) (by first | exact Ent.refl _ | exact fh) ?_)
    rintro v m ⟨rfl, rfl⟩
    refine bV ?_
    refine Dr.kept [false] (by kernel_rfl) Kept.nil ?_
    refine dP 6 Z Z (ag Z) (dP 7 Z Z (aU Z Z) (dP 8 Z Z (aU Z Z) (dP 9 Z Z (aU Z Z) ?_)))
    refine dR 11 Z Z (aG Z (m := 4) (vs := bo 0 0 0 0) Z Z Z Z (by simp [Value.oneCell']) (by show 0 + 4 ≤ 4; omega) ?_)
    refine ax b7 (bo 0 0 0 0).toArray Z ?_
    refine Dr.kept [] (by kernel_rfl) Kept.nil ?_
    refine dP 12 Z Z (az Z) (dP 13 Z Z (az Z) (dE ?_))
    exact bk (b7, false, S, R, l, ⟨0, 0, 0, 0⟩) (.inl ⟨rfl, HQ, rfl, rfl, rfl⟩) ⟨rfl, rfl, rfl, rfl, rfl, rfl, rfl, trivial⟩ ao
  ·
   obtain ⟨hd, q, hq⟩ : ∃ hd q, S.queue = hd :: q := by
    cases hVq : S.queue with
    | nil => exact absurd hVq HQ
    | cons a b => exact ⟨a, b, rfl⟩
   obtain ⟨kk, s, n, rfl, hs, h2, hnF, hlow, hnR⟩ := hL.head hq
   have hH := hS.poll htt ht0 hq hs h2 hnR
   have hfind := hH.drv.lone.ok.find_of hH.drv.lone.get (FK.cd hs) rfl
   refine Dr.start Z (dP 0 Z Z (ag Z) (dP 1 Z Z (aq Z) (dP 2 Z Z (ab (off := 0) Z Z) (dL 3 Z Z (aa Z Z) (ae Z) ?_))))
   refine gz 4 10 Z Z Z Z (by kernel_rfl) (ah Z Z Z hE dV (Ent.refl _) ?_) (aH (z := .agg #[.int .u64 0, .int .i64 0, .int .i64 0, .int .u64 0]) Z Z fun b7 => ?_)
   ·
    rintro v m ⟨rfl, rfl⟩
    refine ay ?_
    refine Dr.kept [true] (by kernel_rfl) (Kept.cons (ae Z) Kept.nil) ?_
    refine gz 5 10 Z Z Z Z (by kernel_rfl) (ah Z Z Z hE (fi (J := FK.J0) hL.ok (by decide) Z hroom hquiet hq hL.get hs hnR (by omega) (by omega)) (by first | exact Ent.refl _ | exact fh) ?_) (aH (z := .agg #[.int .u64 0, .int .i64 0, .int .i64 0, .int .u64 0]) Z Z fun b7 => ?_)
    ·
     rintro v m ⟨rfl, rfl⟩
     refine bV ?_
     rw [cQ]
     refine Dr.kept [false] (by kernel_rfl) Kept.nil ?_
     refine dP 6 Z Z (ag Z) (dP 7 Z Z (aU Z Z) (dP 8 Z Z (aU Z Z) (dP 9 Z Z (aU Z Z) (dR 10 Z Z (aH (z := .agg #[.int .u64 0, .int .i64 0, .int .i64 0, .int .u64 0]) Z Z fun b7 => ?_)))))
     refine Dr.kept [] (by kernel_rfl) Kept.nil ?_
     refine dR 11 Z Z (aG Z (m := 4) (vs := bo 2 kk (s.tries + 1) (S.lastToken + 1)) Z Z Z Z (by simp [Value.oneCell']) (by show 0 + 4 ≤ 4; omega) ?_)
     refine ax b7 (bo 2 kk (s.tries + 1) (S.lastToken + 1)).toArray Z ?_
     refine Dr.kept [] (by kernel_rfl) Kept.nil ?_
     refine dP 12 Z Z (az Z) (dP 13 Z Z (az Z) (dE ?_))
     exact bk (b7, true, S.hand ⟨2, (kk : Int), 0⟩ q R s n, R.setS kk ⟨3, s.tries + 1, S.lastToken + 1⟩, l ++ [FK.aY 2 0], ⟨2, kk, s.tries + 1, S.lastToken + 1⟩) (.inr ⟨rfl, hH, by show S.lastToken + 1 < _; omega, kk, _, hfind, FK.cd hs, rfl⟩) ⟨rfl, rfl, rfl, rfl, rfl, rfl, rfl, trivial⟩ ao
    ·
     refine Dr.kept [true] (by kernel_rfl) (Kept.cons (ae Z) Kept.nil) ?_
     refine dR 5 Z Z (ah Z Z Z hE (fi (J := FK.J0) hL.ok (by decide) Z hroom hquiet hq hL.get hs hnR (by omega) (by omega)) (by first | exact Ent.refl _ | exact fh) ?_)
     rintro v m ⟨rfl, rfl⟩
     refine bV ?_
     rw [cQ]
     refine Dr.kept [false] (by kernel_rfl) Kept.nil ?_
     refine dP 6 Z Z (ag Z) (dP 7 Z Z (aU Z Z) (dP 8 Z Z (aU Z Z) (dP 9 Z Z (aU Z Z) ?_)))
     refine dR 11 Z Z (aG Z (m := 4) (vs := bo 2 kk (s.tries + 1) (S.lastToken + 1)) Z Z Z Z (by simp [Value.oneCell']) (by show 0 + 4 ≤ 4; omega) ?_)
     refine ax b7 (bo 2 kk (s.tries + 1) (S.lastToken + 1)).toArray Z ?_
     refine Dr.kept [] (by kernel_rfl) Kept.nil ?_
     refine dP 12 Z Z (az Z) (dP 13 Z Z (az Z) (dE ?_))
     exact bk (b7, true, S.hand ⟨2, (kk : Int), 0⟩ q R s n, R.setS kk ⟨3, s.tries + 1, S.lastToken + 1⟩, l ++ [FK.aY 2 0], ⟨2, kk, s.tries + 1, S.lastToken + 1⟩) (.inr ⟨rfl, hH, by show S.lastToken + 1 < _; omega, kk, _, hfind, FK.cd hs, rfl⟩) ⟨rfl, rfl, rfl, rfl, rfl, rfl, rfl, trivial⟩ ao
   ·
    refine Dr.kept [true] (by kernel_rfl) (Kept.cons (ae Z) Kept.nil) ?_
    refine dR 4 Z Z (ah Z Z Z hE dV (Ent.refl _) ?_)
    rintro v m ⟨rfl, rfl⟩
    refine ay ?_
    refine Dr.kept [true] (by kernel_rfl) (Kept.cons (ae Z) Kept.nil) ?_
    refine dR 5 Z Z (ah Z Z Z hE (fi (J := FK.J0) hL.ok (by decide) Z hroom hquiet hq hL.get hs hnR (by omega) (by omega)) (by first | exact Ent.refl _ | exact fh) ?_)
    rintro v m ⟨rfl, rfl⟩
    refine bV ?_
    rw [cQ]
    refine Dr.kept [false] (by kernel_rfl) Kept.nil ?_
    refine dP 6 Z Z (ag Z) (dP 7 Z Z (aU Z Z) (dP 8 Z Z (aU Z Z) (dP 9 Z Z (aU Z Z) ?_)))
    refine dR 11 Z Z (aG Z (m := 4) (vs := bo 2 kk (s.tries + 1) (S.lastToken + 1)) Z Z Z Z (by simp [Value.oneCell']) (by show 0 + 4 ≤ 4; omega) ?_)
    refine ax b7 (bo 2 kk (s.tries + 1) (S.lastToken + 1)).toArray Z ?_
    refine Dr.kept [] (by kernel_rfl) Kept.nil ?_
    refine dP 12 Z Z (az Z) (dP 13 Z Z (az Z) (dE ?_))
    exact bk (b7, true, S.hand ⟨2, (kk : Int), 0⟩ q R s n, R.setS kk ⟨3, s.tries + 1, S.lastToken + 1⟩, l ++ [FK.aY 2 0], ⟨2, kk, s.tries + 1, S.lastToken + 1⟩) (.inr ⟨rfl, hH, by show S.lastToken + 1 < _; omega, kk, _, hfind, FK.cd hs, rfl⟩) ⟨rfl, rfl, rfl, rfl, rfl, rfl, rfl, trivial⟩ ao
 rintro ⟨b7, ok, S1, R1, l1, x⟩ hP
 replace hP : FK.yH F polls g D sum l S R t ok S1 R1 l1 x := hP
 refine At.ent (l' := bE h d f :: dA f e j :: ap e p S1 :: aD j d FK.J0 :: ak d (FK.cY l1 1) :: blk b7 55 (bo x.run x.node x.tri x.tok).toArray :: fH w h dl nv 2 tv rv yv irun ist iv jv :: blk bb 87 #[.int .u64 ((bit : Nat) : Int)] :: fr) (Ent.refl _) (At.seq (At.seq (At.region (L.mv Z Z (L.pure Z (cr (r := false) Z Z Z) (L.nil (At.then (aj Z (At.skip (At.then (At.seq (At.seq (At.region (L.mv Z Z (L.pure Z (ck Z Z) (L.nil (At.then ?_)))))))))))))))))
 refine eD Z (fun h24 => ?_) (fun h24 => ?_)
 ·
  obtain ⟨rfl, hq0, rfl, rfl, rfl⟩ := hP.resolve_right (fun h => by rw [h.1] at h24; cases h24)
  refine At.seq (At.region (L.as Z Z (L.nil (At.then (At.ret (aI (aB (bT (aB ?_)))))))))
  refine aA (oT h f e j d p S1 l1 ++ [fH w h dl nv 2 tv rv yv irun ist iv jv, blk bb 87 #[.int .u64 ((bit : Nat) : Int)]]) Z Z ⟨rfl, S1, R1, l1, bit, hbit, hS, hq0, rfl⟩ ?_
  show Ent _ (bE h d f :: dA f e j :: ap e p S1 :: aD j d FK.J0 :: ak d (FK.cY l1 1) :: fH w h dl nv 2 tv rv yv irun ist iv jv :: blk bb 87 #[.int .u64 ((bit : Nat) : Int)] :: fr)
  exact ao
 ·
  obtain ⟨rfl, hH, hxt, k, s, hfind, hs, h3⟩ := hP.resolve_left (fun h => by rw [h.1] at h24; cases h24)
  have hL1 := hH.drv.lone
  have hroom1 := jX hH.lg (by omega)
  have hquiet1 := FK.gD l1
  have f1' := hH.few.sets
  have f2' := hH.few.ends
  have f3' := hH.few.tok
  have htri := hH.i
  have h60 := FK.oY (hL1.ok.run 2 R1 hL1.get)
  refine At.skip (At.then (At.seq (Dr.start Z (dP 0 Z Z (ag Z) (dP 2 Z Z (ag Z) (dP 3 Z Z (aq Z) (dL 4 Z Z (aa (v := .int .u64 ((bit : Nat) : Int)) Z Z) (ae Z) ?_)))))))
  refine dP 5 Z Z (gO (r := ((bit % 38 : Nat) : Int)) Z Z (by omega) (by first | (simp [Int.tmod]; done) | (simp [Int.tmod]; omega))) ?_
  refine dR 1 Z Z (ah Z Z Z hE (kx what 1099511627776 hwhat (by omega) (by omega)) (Ent.refl _) ?_)
  rintro v m ⟨kw, rfl, hkw, rfl⟩
  refine ay ?_
  refine Dr.kept [true] (by kernel_rfl) (Kept.cons (ae Z) Kept.nil) ?_
  refine dP 6 Z Z (ed Z Z (by omega) Z) ?_
  refine dP 7 Z Z (p9 Z Z Z) (dP 8 Z Z (az Z) (dE (At.then (At.seq (At.region (L.mv Z Z (L.mv Z Z (aN Z Z (aX Z Z Z Z ?_)))))))))
  refine L.pure Z (aO (r := (((bit + 2) % 18446744073709551616 : Nat) : Int)) Z Z (by rw [lE]; omega)) ?_
  refine aN Z Z ?_
  refine L.st Z Z Z Z (by first | decide | simp | (simp; omega)) ?_
  refine L.nil (At.then ?_)
  refine At.seq (At.cut (X := FK.En × FK.Rn × List (List UInt8)) (fun _ => [(9, .int .i64 0), (6, .bool false), (2, aL bb), (1, .int .i64 what), (0, aL w)]) (fun x => bE h d f :: dA f e j :: ap e p x.1 :: aD j d FK.J0 :: ak d (FK.cY x.2.2 1) :: fH w h dl nv 2 tv rv yv irun ist iv jv :: blk bb 87 #[.int .u64 (((bit + 2) % 18446744073709551616 : Nat) : Int)] :: fr) (fun x => FK.EndSt F polls g D sum x.2.2 x.1 x.2.1 t ∧ FK.cx x.2.1 = FK.cx R1) ?_ ?_)
  ·
   refine At.seq (ax bb #[.int .u64 (((bit + 2) % 18446744073709551616 : Nat) : Int)] rfl (At.ent (l' := bE h d f :: dA f e j :: ap e p S1 :: aD j d FK.J0 :: ak d (FK.cY l1 1) :: blk b7 55 (bo x.run x.node x.tri x.tok).toArray :: fH w h dl nv 2 tv rv yv irun ist iv jv :: blk bb 87 #[.int .u64 (((bit + 2) % 18446744073709551616 : Nat) : Int)] :: fr) ao (At.region (L.mv Z Z (L.nil (At.then (At.block (At.seq (At.region (L.pure Z (aV Z Z Z) (L.as Z Z (L.nil (At.then ?_)))))))))))))
   refine aC Z (fun c40 => ?_) (fun c40 => ?_)
   ·
    obtain ⟨R2, hF2, htr2⟩ := hH.fail (by omega) htt hxt hfind hs h3
    refine Dr.start Z (dP 0 Z Z (ag Z) (dP 1 Z Z (aq Z) (dP 2 Z Z (ab (off := 0) Z Z) (dL 3 Z Z (aa Z Z) (ae Z) (dP 4 Z Z (ab (off := 3) Z Z) (dL 5 Z Z (aa Z Z) (ae Z) (dR 6 Z Z (ah Z Z Z hE dV (Ent.refl _) ?_))))))))
    rintro v m ⟨rfl, rfl⟩
    refine ay ?_
    refine Dr.kept [true, true] (by kernel_rfl) (Kept.cons (ae Z) (Kept.cons (ae Z) Kept.nil)) ?_
    refine dR 7 Z Z (ah Z Z Z hE (n9 (J := FK.J0) hL1.ok hxt (by decide) Z hroom1 hquiet1 hfind (by omega) (by omega)) (Ent.refl _) ?_)
    rintro v m ⟨rfl, rfl⟩
    refine bV ?_
    rw [cQ]
    refine Dr.kept [false, false] (by kernel_rfl) Kept.nil ?_
    refine dP 8 Z Z (az Z) (dE (al ?_))
    exact bk (S1.fail x.tok, R2, l1 ++ [FK.aY 5 x.tok]) ⟨hF2, htr2⟩ ⟨rfl, rfl, rfl, rfl, rfl, trivial⟩ ao
   ·
    refine At.seq (At.region (L.pure Z (aV Z Z Z) (L.as Z Z (L.nil (At.then ?_)))))
    refine aC Z (fun c50 => ?_) (fun c50 => ?_)
    ·
     obtain ⟨R2, hF2, htr2⟩ := hH.complete (by omega) hxt hfind hs h3
     refine Dr.start Z (dP 0 Z Z (ag Z) (dP 1 Z Z (aq Z) (dP 2 Z Z (ab (off := 0) Z Z) (dL 3 Z Z (aa Z Z) (ae Z) (dP 4 Z Z (ab (off := 3) Z Z) (dL 5 Z Z (aa Z Z) (ae Z) (dR 6 Z Z (ah Z Z Z hE dV (Ent.refl _) ?_))))))))
     rintro v m ⟨rfl, rfl⟩
     refine ay ?_
     refine Dr.kept [true, true] (by kernel_rfl) (Kept.cons (ae Z) (Kept.cons (ae Z) Kept.nil)) ?_
     refine dR 7 Z Z (ah Z Z Z hE (hO (J := FK.J0) hL1.ok hxt (by decide) Z hroom1 hquiet1 hfind (by omega)) (Ent.refl _) ?_)
     rintro v m ⟨rfl, rfl⟩
     refine bV ?_
     rw [cQ]
     refine Dr.kept [false, false] (by kernel_rfl) Kept.nil ?_
     refine dP 8 Z Z (az Z) (dE (al ?_))
     exact bk (S1.complete x.tok, R2, l1 ++ [FK.aY 4 x.tok]) ⟨hF2, htr2⟩ ⟨rfl, rfl, rfl, rfl, rfl, trivial⟩ ao
    ·
     refine At.skip (al ?_)
     exact bk (S1, R1, l1) ⟨hH.none, rfl⟩ ⟨rfl, rfl, rfl, rfl, rfl, trivial⟩ ao
  rintro ⟨S2, R2, l2⟩ ⟨h2, htr2⟩
  replace h2 : FK.EndSt F polls g D sum l2 S2 R2 t := h2
  replace htr2 : FK.cx R2 = FK.cx R1 := htr2
  refine At.seq (At.region (L.mv Z Z (L.pure Z (cr (r := false) Z Z Z) (L.nil (At.then (aj Z (At.skip (al ?_))))))))
  refine At.round (S2, R2, l2, (bit + 2) % 18446744073709551616) ⟨h2, Nat.mod_lt _ (by omega)⟩ (by show 60 - FK.cx R2 < 60 - FK.cx R; omega) ⟨rfl, rfl, rfl, rfl, trivial⟩ ?_
  exact Ent.refl _
end Go.Proofs.YtmeegfamopaljaaGreatDoor
