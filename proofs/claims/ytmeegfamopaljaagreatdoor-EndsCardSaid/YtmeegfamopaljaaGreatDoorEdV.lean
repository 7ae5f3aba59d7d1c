/- What an entry says, done again. -/
import Derived.Test.YtmeegfamopaljaaGreatDoorEdR
import Derived.Test.YtmeegfamopaljaaGreatDoorEdU
import Derived.Test.YtmeegfamopaljaaGreatDoorEdL
import Derived.Test.YtmeegfamopaljaaGreatDoorEdJ
namespace FK
inductive Redo : En → List UInt8 → En → Prop
 | submit {S S0 : En} {bs : List UInt8} {fl : Flow} (hd : oO bs = .ok fl) (hf : Fit fl) (hl : bs.length ≤ 1000000000) (hc : qX S S0) (hu : ∀ S1, qX S S1 → S1 = S0) : Redo S (1 :: bs) (S0.submit fl)
 | poll {S : En} {id k : Nat} {q : List Pl} {R : Rn} {s : Sp} {nd : Node} (hq : S.queue = ⟨id, (k : Int), 0⟩ :: q) (hR : S.getR id = some R) (hs : R.steps[k]? = some s) (hn : R.fl.nodes[k]? = some nd) : Redo S (aY 2 0) (S.hand ⟨id, (k : Int), 0⟩ q R s nd)
 | beat {S : En} {t id k : Nat} {wh : Int} {R : Rn} {nd : Node} (hlt : t < 18446744073709551616) (ht : (S.tasks.find? (·.1 == t)).map (·.2) = some ⟨id, (k : Int), wh⟩) (hR : S.getR id = some R) (hn : R.fl.nodes[k]? = some nd) : Redo S (aY 3 t) (S.life ⟨id, (k : Int), wh⟩ nd)
 | complete {S : En} {t : Nat} {P : Pl} (hlt : t < 18446744073709551616) (ht : (S.tasks.find? (·.1 == t)).map (·.2) = some P) : Redo S (aY 4 t) (S.complete t)
 | fail {S : En} {t : Nat} {P : Pl} (hlt : t < 18446744073709551616) (ht : (S.tasks.find? (·.1 == t)).map (·.2) = some P) : Redo S (aY 5 t) (S.fail t)
 | cancel {S : En} {id : Nat} {R : Rn} (hlt : id < 18446744073709551616) (hR : S.getR id = some R) : Redo S (aY 6 id) (S.finish id 4)
 | tick {S U : En} {n : Nat} (hlt : n < 18446744073709551616) (ht : Ticks (S.later n) S U) : Redo S (aY 7 n) U
 | seed {S : En} {n : Nat} (hlt : n < 18446744073709551616) : Redo S (aY 8 n) { S with seed := n }
structure Fine (S : En) : Prop where
 ok : Ok S
 sets : S.sets ≤ 4611686018427387904
 ends : S.ends ≤ 4611686018427387904
 tok : S.lastToken ≤ 4611686018427387904
 runs : S.lastRun ≤ 4611686018427387904
theorem uz {op n : Nat} : 1 ≤ (aY op n).length := by unfold aY; simp
theorem mE {op n : Nat} : (aY op n).drop 1 = bz n := rfl
end FK
namespace Go.Proofs.YtmeegfamopaljaaGreatDoor
open Go Go.RowKit Go.SL
set_option maxRecDepth 10000 in
set_option maxHeartbeats 1000000 in
theorem fc {f e op n : Nat} {jv : Value} {p : EA} {S : FK.En} {Q : FK.En → Prop} {pb : HP} {A : Option Addr} {c : Nat} (h1 : op ≠ 1) (hop : op < 256) (hn : n < 18446744073709551616) (hp : Reads pb A (FK.aY op n)) (hc : (FK.aY op n).length ≤ c)
 (hD : Does Tryz.prog Good 166 [aL f, .int .i64 op, bc n].toArray [gj f e jv, ap e p S] fun v m => v = .tuple #[] ∧ ∃ U, Q U ∧ m = [gj f e jv, ap e p U]) :
 Does Tryz.prog Good 110 [aL f, .slice A (FK.aY op n).length c].toArray [gj f e jv, ap e p S, pb] fun v m => v = .tuple #[] ∧ ∃ U, Q U ∧ m = [gj f e jv, ap e p U, pb] := by
 obtain ⟨g, o, rfl⟩ := hp.form (by unfold FK.aY; simp)
 have hlen := FK.uz (op := op) (n := n)
 have h8 : (UInt8.ofNat op).toNat = op := by simp; omega
 have hel : (FK.aY op n).length ≤ 11 := by
  have := ew (n := n) hn
  unfold FK.aY
  simp
  omega
 have hT : Does Tryz.prog Good 173 [vR (some ⟨g, o, none⟩) (FK.aY op n).length c 1].toArray [pb] fun v m => (∃ w, v = .tuple #[bc n, w]) ∧ m = [pb] := by
  have h := lK (G := Good) (hp.cut (k := 1) hc) (c := c - 1) (by rw [List.length_drop]; omega) (by rw [List.length_drop]; omega)
  rw [List.length_drop] at h
  refine h.mono fun v m ⟨hv, hm⟩ => ⟨m, ⟨?_, hm⟩, Ent.refl _⟩
  have ht := FK.pf hn []
  rw [List.append_nil] at ht
  rcases hv with ⟨h0, _⟩ | ⟨n', k, h0, _, _, rfl⟩
  · rw [FK.mE, ht] at h0; cases h0
  · rw [FK.mE, ht] at h0
    injection h0 with h0
    injection h0 with h0 _
    subst h0
    exact ⟨_, rfl⟩
 refine Does.body Tryz.func110 Z Z fun E fr hE => ?_
 refine cu (At.seq (At.region (L.mv Z Z ?_)))
 refine L.pure Z (bD (z := 1) (i := 0) Z Z Z Z (by omega)) ?_
 refine L.val Z (aa (v := .int .u8 op) Z Z) (fun w hw => by have := hp.at (.tail (.tail .head)) Z (j := 0) (x := UInt8.ofNat op) Z w hw; rw [h8] at this; simpa using this) ?_
 refine L.pure Z (bq (r := (op : Int)) Z Z Z (cT (by omega))) ?_
 refine L.as Z Z (L.nil (At.then (At.seq (At.seq (At.region (L.mv Z Z ?_))))))
 refine L.pure Z (aV (r := false) Z Z (by simp; omega)) ?_
 refine L.nil (At.then (aj Z (At.skip (At.then (At.seq (At.region (L.mv Z Z ?_)))))))
 refine L.pure Z (cM (z := 1) (a := 1) (b := (FK.aY op n).length) Z Z Z ⟨_, rfl⟩ rfl (by omega) (by omega)) ?_
 refine L.op Z (ah Z Z Z hE hT (Ent.sel (.tail (.tail .head))) ?_)
 rintro v m ⟨⟨w, rfl⟩, rfl⟩
 refine ai (L.mv Z Z (L.ex Z Z Z (L.ex Z Z Z (L.as Z Z (L.as Z Z (L.nil (At.then (At.region (L.mv Z Z (L.mv Z Z (L.mv Z Z (L.op Z (ah Z Z Z hE hD (aK (.tail .head) (.tail .head)) ?_)))))))))))))
 rintro v m ⟨rfl, U, hU, rfl⟩
 refine aF (L.nil ?_)
 exact aZ [gj f e jv, ap e p U, pb] rfl ⟨rfl, U, hU, rfl⟩ (Ent.refl _)
set_option maxRecDepth 10000 in
set_option maxHeartbeats 1000000 in
theorem tW {f e : Nat} {jv : Value} {p : EA} {S : FK.En} {pb : HP} {A : Option Addr} {c : Nat} {bs : List UInt8} {fl : FK.Flow} (h : FK.Fine S) (hp : Reads pb A (1 :: bs)) (hc : (1 :: bs).length ≤ c) (hl : bs.length ≤ 1000000000) (hd : FK.oO bs = .ok fl) (hfit : FK.Fit fl) :
 Does Tryz.prog Good 110 [aL f, .slice A (1 :: bs).length c].toArray [gj f e jv, ap e p S, pb] fun v m => v = .tuple #[] ∧ ∃ S0 p', FK.qX S S0 ∧ m = [gj f e jv, ap e p' (S0.submit fl), pb] := by
 obtain ⟨g, o, rfl⟩ := hp.form (by simp)
 have h12 := hfit.head.2.2
 have h1 := hfit.head.2.1
 obtain ⟨hd1, hd2⟩ := hfit.head.1
 have hs1 := h.sets
 have hs2 := h.runs
 have hlen : (1 :: bs).length = bs.length + 1 := rfl
 have hR : Does Tryz.prog Good 93 [vR (some ⟨g, o, none⟩) (1 :: bs).length c 1].toArray [pb] fun v m => ∃ A' c', (∀ nd ∈ fl.nodes, Small nd) ∧ v = .tuple #[.agg #[.int .i64 fl.deadline, .slice A' fl.nodes.length c'], .nilIface] ∧ m = [nodesOwn (.slice A' fl.nodes.length c') fl.nodes, pb] := by
  have h := pj (c := c - 1) (hp.cut (k := 1) hc) (by rw [List.length_drop]; omega)
  rw [List.length_drop] at h
  refine h.mono fun v m hv => ⟨m, ?_, Ent.refl _⟩
  rcases hv with ⟨f', A', c', hd', hsm, hv, hm⟩ | ⟨e', a', b', hd', _⟩
  · have hd' : FK.oO bs = .ok f' := hd'
    rw [hd] at hd'
    injection hd' with hd'
    subst hd'
    exact ⟨A', c', hsm, hv, hm⟩
  · have hd' : FK.oO bs = .error _ := hd'
    rw [hd] at hd'
    cases hd'
 refine Does.body Tryz.func110 Z Z fun E fr hE => ?_
 refine cu (At.seq (At.region (L.mv Z Z ?_)))
 refine L.pure Z (bD (z := 1) (i := 0) Z Z Z Z (by omega)) ?_
 refine L.val Z (aa (v := .int .u8 1) Z Z) (fun w hw => by have := hp.at (.tail (.tail .head)) Z (j := 0) (x := 1) Z w hw; simpa using this) ?_
 refine L.pure Z (bq (r := 1) Z Z Z (by decide)) ?_
 refine L.as Z Z (L.nil (At.then (At.seq (At.seq (At.region (L.mv Z Z (L.pure Z (aV (r := true) Z Z Z) (L.nil (At.then (aR Z (At.seq (At.region (L.mv Z Z ?_)))))))))))))
 refine L.pure Z (cM (z := 1) (a := 1) (b := (1 :: bs).length) Z Z Z ⟨_, rfl⟩ rfl (by omega) (by omega)) ?_
 refine L.op Z (ah Z Z Z hE hR (Ent.sel (.tail (.tail .head))) ?_)
 rintro v m ⟨A', c', hsm, rfl, rfl⟩
 refine aF (L.mv Z Z (L.ex Z Z Z (L.ex Z Z Z (L.op Z (aH (z := .agg #[.int .i64 0, .slice none 0 0]) Z Z fun b5 => ?_)))))
 refine L.op Z (aG Z (m := 2) (vs := [.int .i64 fl.deadline, .slice A' fl.nodes.length c']) Z Z Z Z (by simp [Value.oneCell']) (by simp [Value.cells]) ?_)
 refine ax b5 #[.int .i64 fl.deadline, .slice A' fl.nodes.length c'] rfl (L.as Z Z ?_)
 refine At.ent (l' := ap e p S :: nodesOwn (.slice A' fl.nodes.length c') fl.nodes :: blk b5 29 #[.int .i64 fl.deadline, .slice A' fl.nodes.length c'] :: pb :: gj f e jv :: fr) (by show Ent (blk b5 29 _ :: nodesOwn _ _ :: pb :: gj f e jv :: ap e p S :: fr) _; exact ao) ?_
 refine L.nil (At.then (At.seq (Dr.start Z (dP 0 Z Z (ag Z) (dP 1 Z Z (aq Z) (dP 2 Z Z (ab (off := 0) Z Z) (dL 3 Z Z (aa Z Z) (ae Z) (dL 4 Z Z (am (vs := [.int .i64 fl.deadline, .slice A' fl.nodes.length c']) Z Z Z Z) (av Z) ?_))))))))
 refine dR 5 Z Z (ah Z Z Z hE (mg (nv := .slice A' fl.nodes.length c') h1 (by omega) hfit.after (by omega) (by omega) h.ok.now (by have := h.ok.queueLe; omega) (by have := h.ok.tmsLe; omega) (by omega) (fun r hr => (h.ok.low r.1 (List.mem_map_of_mem (f := (·.1)) hr)).2) (by omega)) (aK .head .head) ?_)
 rintro v m ⟨S0, p', hcut, rfl, rfl⟩
 refine ai ?_
 refine Dr.kept [false, false] (by kernel_rfl) Kept.nil ?_
 refine dE (At.then (At.ret (aI ?_)))
 refine aZ [gj f e jv, ap e p' (S0.submit fl), pb] rfl ⟨rfl, S0, p', hcut, rfl⟩ ?_
 show Ent _ (gj f e jv :: ap e p' (S0.submit fl) :: pb :: fr)
 exact ao
end Go.Proofs.YtmeegfamopaljaaGreatDoor

namespace Go.Proofs.YtmeegfamopaljaaGreatDoor
open Go Go.RowKit Go.SL Go.Extern
set_option maxRecDepth 10000
set_option maxHeartbeats 4000000
theorem Bk (e : Addr) (t bv : Nat) (o : Value) : Does Tryz.prog Good 147 [.iface 159 (.pointer (some e)), .iface 161 (.pointer (some ⟨t, 0, none⟩)), rv 161 bv 150, rt 159].toArray [blk bv 161 #[.pointer (some ⟨t, 0, none⟩)], blk t 159 #[o]] fun v m => v = .bool true ∧ m = [blk t 159 #[.pointer (some e)]] := by
 refine Does.body Tryz.func147 Z Z fun E fr hE => ?_
 refine aF (At.seq (At.region (L.op Z (cc Z Z fun b6 => (L.as Z Z (L.nil (At.then (At.block ?_))))))))
 refine aT (X := Unit) (fun _ => [(0, .iface 159 (.pointer (some e))), (1, .iface 161 (.pointer (some ⟨t, 0, none⟩))), (3, rt 159), (6, .pointer (some ⟨b6, 0, none⟩))]) (fun _ => blk b6 226 #[db 161, .pointer (some ⟨bv, 0, none⟩), .int .u64 150] :: blk bv 161 #[.pointer (some ⟨t, 0, none⟩)] :: blk t 159 #[o] :: fr) (fun _ => True) (fun _ => 0) () trivial ⟨rfl, rfl, rfl, rfl, trivial⟩ (Ent.refl _) ?_
 rintro _ _
 refine At.block (At.seq (At.seq (At.region (L.mv Z Z ?_))))
 refine L.pure Z (fK Z fun w _ => Ak _ w) ?_
 refine L.mv Z Z ?_
 refine L.pure Z (dc Z Z (ix _) fun w _ => s7 w) ?_
 refine L.nil (At.then (aR Z (At.seq (At.region ?_))))
 refine L.val Z (am (vs := [db 161, .pointer (some ⟨bv, 0, none⟩), .int .u64 150]) Z Z Z Z) (av Z) ?_
 refine L.val Z (fK (args := [rv 161 bv 150]) Z fun w h => Cm bv t w h) (ae Z) ?_
 refine L.mv Z Z ?_
 refine L.op Z (q9 (v := fun b => rv 159 b 150) Z Z (fun w => yN e w) fun b23 => ?_)
 refine L.op Z (po (args := [rv 159 t 406, rv 159 b23 150]) Z (b := t) (j := 0) (tb := 159) (cs := #[o]) (u := .tuple #[]) (v := .pointer (some e)) (φ := bI ⟨b23, 0, none⟩ (.pointer (some e))) Z (ae (b := b23) Z) (fun w h1 h2 => setF t b23 e o w h1 h2) ?_)
 refine L.nil (At.then (At.seq (At.region (L.as Z Z (L.nil (At.then (At.ret (aI (aB (bT (aB ?_)))))))))))
 exact aA [blk t 159 #[.pointer (some e)]] rfl Z ⟨rfl, rfl⟩ (Ent.cons (Ent.drop.trans (Ent.drop.trans Ent.drop)))
theorem Bj (e : Int) (t bv : Nat) (o : Value) : Does Tryz.prog Good 147 [.iface 48 (.int .i64 e), .iface 165 (.pointer (some ⟨t, 0, none⟩)), rv 165 bv 150, rt 48].toArray [blk bv 165 #[.pointer (some ⟨t, 0, none⟩)], blk t 48 #[o]] fun v m => v = .bool true ∧ m = [blk t 48 #[.int .i64 e]] := by
 refine Does.body Tryz.func147 Z Z fun E fr hE => ?_
 refine aF (At.seq (At.region (L.op Z (cc Z Z fun b6 => (L.as Z Z (L.nil (At.then (At.block ?_))))))))
 refine aT (X := Unit) (fun _ => [(0, .iface 48 (.int .i64 e)), (1, .iface 165 (.pointer (some ⟨t, 0, none⟩))), (3, rt 48), (6, .pointer (some ⟨b6, 0, none⟩))]) (fun _ => blk b6 226 #[db 165, .pointer (some ⟨bv, 0, none⟩), .int .u64 150] :: blk bv 165 #[.pointer (some ⟨t, 0, none⟩)] :: blk t 48 #[o] :: fr) (fun _ => True) (fun _ => 0) () trivial ⟨rfl, rfl, rfl, rfl, trivial⟩ (Ent.refl _) ?_
 rintro _ _
 refine At.block (At.seq (At.seq (At.region (L.mv Z Z ?_))))
 refine L.pure Z (fK Z fun w _ => mP _ w) ?_
 refine L.mv Z Z ?_
 refine L.pure Z (dc Z Z (ix _) fun w _ => s6 w) ?_
 refine L.nil (At.then (aR Z (At.seq (At.region ?_))))
 refine L.val Z (am (vs := [db 165, .pointer (some ⟨bv, 0, none⟩), .int .u64 150]) Z Z Z Z) (av Z) ?_
 refine L.val Z (fK (args := [rv 165 bv 150]) Z fun w h => Cl bv t w h) (ae Z) ?_
 refine L.mv Z Z ?_
 refine L.op Z (q9 (v := fun b => rv 48 b 130) Z Z (fun w => yM e w) fun b23 => ?_)
 refine L.op Z (po (args := [rv 48 t 386, rv 48 b23 130]) Z (b := t) (j := 0) (tb := 48) (cs := #[o]) (u := .tuple #[]) (v := .int .i64 e) (φ := bI ⟨b23, 0, none⟩ (.int .i64 e)) Z (ae (b := b23) Z) (fun w h1 h2 => setN t b23 e o w h1 h2) ?_)
 refine L.nil (At.then (At.seq (At.region (L.as Z Z (L.nil (At.then (At.ret (aI (aB (bT (aB ?_)))))))))))
 exact aA [blk t 48 #[.int .i64 e]] rfl Z ⟨rfl, rfl⟩ (Ent.cons (Ent.drop.trans (Ent.drop.trans Ent.drop)))
theorem xG (x : Int) (t bv : Nat) (o : Value) : Does Tryz.prog Good 147 [.iface 48 (.int .i64 x), .iface 161 (.pointer (some ⟨t, 0, none⟩)), rv 161 bv 150, rt 159].toArray [blk bv 161 #[.pointer (some ⟨t, 0, none⟩)], blk t 159 #[o]] fun v m => v = .bool false ∧ m = [blk t 159 #[o]] := by
 refine Does.body Tryz.func147 Z Z fun E fr hE => ?_
 refine aF (At.seq (At.region (L.op Z (cc Z Z fun b6 => (L.as Z Z (L.nil (At.then (At.block ?_))))))))
 refine aT (X := Unit) (fun _ => [(0, .iface 48 (.int .i64 x)), (1, .iface 161 (.pointer (some ⟨t, 0, none⟩))), (3, rt 159), (6, .pointer (some ⟨b6, 0, none⟩))]) (fun _ => blk b6 226 #[db 161, .pointer (some ⟨bv, 0, none⟩), .int .u64 150] :: blk bv 161 #[.pointer (some ⟨t, 0, none⟩)] :: blk t 159 #[o] :: fr) (fun _ => True) (fun _ => 0) () trivial ⟨rfl, rfl, rfl, rfl, trivial⟩ (Ent.refl _) ?_
 rintro _ _
 refine At.block (At.seq (At.seq (At.region (L.mv Z Z ?_))))
 refine L.pure Z (fK Z fun w _ => mP _ w) ?_
 refine L.mv Z Z ?_
 refine L.pure Z (dc Z Z (ix _) fun w _ => qU w) ?_
 refine L.nil (At.then (aj Z (At.skip (At.then (At.seq (At.seq (At.region (L.mv Z Z ?_))))))))
 refine L.pure Z (j8 (z := .nilIface) Z Z (by kernel_rfl) (by kernel_rfl)) ?_
 refine L.mv Z Z (L.ex Z Z Z (L.ex Z Z Z (L.as Z Z (L.as Z Z (L.nil (At.then (At.seq (At.region (L.mv Z Z (L.mv Z Z (L.off Z Z Z Z Z Z (L.off Z Z Z Z Z Z (L.off Z Z Z Z Z Z (L.pure Z (aM Z Z Z) (L.nil (At.then (aj Z (At.skip (At.then ?_)))))))))))))))))))
 refine At.seq (At.region (L.mv Z Z (L.nil (At.then (At.block (At.seq (At.region ?_)))))))
 refine L.pure Z (j8 (z := .nilIface) Z Z (by kernel_rfl) (by kernel_rfl)) ?_
 refine L.ex Z Z Z (L.ex Z Z Z (L.nil (At.then (aj Z (At.seq (At.region ?_))))))
 refine L.pure Z (j8 (z := .nilIface) Z Z (by kernel_rfl) (by kernel_rfl)) ?_
 refine L.ex Z Z Z (L.ex Z Z Z (L.nil (At.then (aj Z (At.seq (At.region (L.as Z Z (L.nil (At.then (At.seq (At.region (L.as Z Z (L.nil (At.then (At.ret (aB (aB (bT (aB ?_)))))))))))))))))))
 exact aA [blk t 159 #[o]] rfl Z ⟨rfl, rfl⟩ (Ent.drop.trans Ent.drop)
theorem Aa (e : Addr) (t : Nat) (o : Value) : Does Tryz.prog Good 91 [.iface 159 (.pointer (some e)), .iface 161 (.pointer (some ⟨t, 0, none⟩))].toArray [blk t 159 #[o]] fun v m => v = .bool true ∧ m = [blk t 159 #[.pointer (some e)]] := by
 refine Does.body Tryz.func91 Z Z fun E fr hE => ?_
 refine ai (At.seq (At.region (L.as Z Z (L.nil (At.then (At.seq (At.seq (At.region (L.mv Z Z (L.pure Z (co Z Z) (L.nil (At.then (aj Z (At.skip (At.then (At.seq (At.seq (At.region (L.mv Z Z ?_)))))))))))))))))))
 refine L.pure Z (co Z Z) (L.nil (At.then (aj Z (At.skip (At.then (At.seq (At.region (L.mv Z Z ?_))))))))
 refine L.op Z (q9 (v := fun b => rv 161 b 150) Z Z (fun w => oX t w) fun bv => ?_)
 refine L.op Z (aH (z := .agg #[.pointer none, .pointer none, .int .u64 0]) Z Z fun b5 => ?_)
 refine L.op Z (aG Z (m := 3) (vs := [db 161, .pointer (some ⟨bv, 0, none⟩), .int .u64 150]) Z Z Z Z (by simp [Value.oneCell']) (by simp [Value.cells]) ?_)
 refine L.nil (At.then (At.seq (At.region ?_)))
 refine L.val Z (am (vs := [db 161, .pointer (some ⟨bv, 0, none⟩), .int .u64 150]) Z Z Z Z) (av Z) ?_
 refine L.pure Z (fK Z fun w _ => yh bv w) ?_
 refine L.as Z Z (L.nil (At.then (At.seq (At.seq (At.region (L.mv Z Z ?_))))))
 refine L.pure Z (dc Z Z (oR _) fun w _ => yx w) ?_
 refine L.pure Z (cr Z Z Z) (L.mv Z Z ?_)
 refine lA Z Z Z (am (vs := [db 161, .pointer (some ⟨bv, 0, none⟩), .int .u64 150]) Z Z Z Z) (av Z) ?_
 refine lA Z Z Z (fK (args := [rv 161 bv 150]) (φ := bI ⟨bv, 0, none⟩ (.pointer (some ⟨t, 0, none⟩))) Z fun w h => vy bv t w h) (ae Z) ?_
 refine L.pure Z (aM Z Z Z) (L.nil (At.then (aj Z (At.skip (At.then (At.seq (At.region (L.mv Z Z ?_))))))))
 refine L.pure Z (dc Z Z (xZ _) fun w _ => yE w) ?_
 refine L.as Z Z (L.nil (At.then (At.seq (At.seq (At.region (L.mv Z Z ?_))))))
 refine L.pure Z (dc Z Z (oR _) fun w _ => Bt w) ?_
 refine L.pure Z (cr Z Z Z) (L.mv Z Z (lT Z Z Z (ag Z) ?_))
 refine lA Z Z Z (aa Z Z) (fun w hw => hE.err w hw.is) ?_
 refine lT Z Z Z (dc Z Z (jF _) fun w _ => mu w) ?_
 refine lT Z Z Z (ck Z Z) (L.pure Z (aM Z Z Z) (L.nil (At.then (aj Z (At.skip (At.then (At.seq (At.region (L.mv Z Z (L.mv Z Z ?_))))))))))
 refine L.val Z (am (vs := [db 161, .pointer (some ⟨bv, 0, none⟩), .int .u64 150]) Z Z Z Z) (av Z) ?_
 refine L.mv Z Z (L.op Z (ah Z Z Z hE (Bk e t bv o) (aK (.tail (.head)) (.tail (.head))) ?_))
 rintro v m ⟨rfl, rfl⟩
 refine ai (L.as Z Z (L.nil (At.then (At.ret ?_))))
 exact aA [blk t 159 #[.pointer (some e)]] rfl Z ⟨rfl, rfl⟩ (Ent.cons Ent.drop)
theorem Ab (e : Int) (t : Nat) (o : Value) : Does Tryz.prog Good 91 [.iface 48 (.int .i64 e), .iface 165 (.pointer (some ⟨t, 0, none⟩))].toArray [blk t 48 #[o]] fun v m => v = .bool true ∧ m = [blk t 48 #[.int .i64 e]] := by
 refine Does.body Tryz.func91 Z Z fun E fr hE => ?_
 refine ai (At.seq (At.region (L.as Z Z (L.nil (At.then (At.seq (At.seq (At.region (L.mv Z Z (L.pure Z (co Z Z) (L.nil (At.then (aj Z (At.skip (At.then (At.seq (At.seq (At.region (L.mv Z Z ?_)))))))))))))))))))
 refine L.pure Z (co Z Z) (L.nil (At.then (aj Z (At.skip (At.then (At.seq (At.region (L.mv Z Z ?_))))))))
 refine L.op Z (q9 (v := fun b => rv 165 b 150) Z Z (fun w => vX t w) fun bv => ?_)
 refine L.op Z (aH (z := .agg #[.pointer none, .pointer none, .int .u64 0]) Z Z fun b5 => ?_)
 refine L.op Z (aG Z (m := 3) (vs := [db 165, .pointer (some ⟨bv, 0, none⟩), .int .u64 150]) Z Z Z Z (by simp [Value.oneCell']) (by simp [Value.cells]) ?_)
 refine L.nil (At.then (At.seq (At.region ?_)))
 refine L.val Z (am (vs := [db 165, .pointer (some ⟨bv, 0, none⟩), .int .u64 150]) Z Z Z Z) (av Z) ?_
 refine L.pure Z (fK Z fun w _ => BI bv w) ?_
 refine L.as Z Z (L.nil (At.then (At.seq (At.seq (At.region (L.mv Z Z ?_))))))
 refine L.pure Z (dc Z Z (oR _) fun w _ => B8 w) ?_
 refine L.pure Z (cr Z Z Z) (L.mv Z Z ?_)
 refine lA Z Z Z (am (vs := [db 165, .pointer (some ⟨bv, 0, none⟩), .int .u64 150]) Z Z Z Z) (av Z) ?_
 refine lA Z Z Z (fK (args := [rv 165 bv 150]) (φ := bI ⟨bv, 0, none⟩ (.pointer (some ⟨t, 0, none⟩))) Z fun w h => AN bv t w h) (ae Z) ?_
 refine L.pure Z (aM Z Z Z) (L.nil (At.then (aj Z (At.skip (At.then (At.seq (At.region (L.mv Z Z ?_))))))))
 refine L.pure Z (dc Z Z (xZ _) fun w _ => Cn w) ?_
 refine L.as Z Z (L.nil (At.then (At.seq (At.seq (At.region (L.mv Z Z ?_))))))
 refine L.pure Z (dc Z Z (oR _) fun w _ => kindN w) ?_
 refine L.pure Z (cr Z Z Z) (L.mv Z Z (lT Z Z Z (ag Z) ?_))
 refine lA Z Z Z (aa Z Z) (fun w hw => hE.err w hw.is) ?_
 refine lT Z Z Z (dc Z Z (jF _) fun w _ => sJ w) ?_
 refine lT Z Z Z (ck Z Z) (L.pure Z (aM Z Z Z) (L.nil (At.then (aj Z (At.skip (At.then (At.seq (At.region (L.mv Z Z (L.mv Z Z ?_))))))))))
 refine L.val Z (am (vs := [db 165, .pointer (some ⟨bv, 0, none⟩), .int .u64 150]) Z Z Z Z) (av Z) ?_
 refine L.mv Z Z (L.op Z (ah Z Z Z hE (Bj e t bv o) (aK (.tail (.head)) (.tail (.head))) ?_))
 rintro v m ⟨rfl, rfl⟩
 refine ai (L.as Z Z (L.nil (At.then (At.ret ?_))))
 exact aA [blk t 48 #[.int .i64 e]] rfl Z ⟨rfl, rfl⟩ (Ent.cons Ent.drop)
theorem Bp (x : Int) (t : Nat) (o : Value) : Does Tryz.prog Good 91 [.iface 48 (.int .i64 x), .iface 161 (.pointer (some ⟨t, 0, none⟩))].toArray [blk t 159 #[o]] fun v m => v = .bool false ∧ m = [blk t 159 #[o]] := by
 refine Does.body Tryz.func91 Z Z fun E fr hE => ?_
 refine ai (At.seq (At.region (L.as Z Z (L.nil (At.then (At.seq (At.seq (At.region (L.mv Z Z (L.pure Z (co Z Z) (L.nil (At.then (aj Z (At.skip (At.then (At.seq (At.seq (At.region (L.mv Z Z ?_)))))))))))))))))))
 refine L.pure Z (co Z Z) (L.nil (At.then (aj Z (At.skip (At.then (At.seq (At.region (L.mv Z Z ?_))))))))
 refine L.op Z (q9 (v := fun b => rv 161 b 150) Z Z (fun w => oX t w) fun bv => ?_)
 refine L.op Z (aH (z := .agg #[.pointer none, .pointer none, .int .u64 0]) Z Z fun b5 => ?_)
 refine L.op Z (aG Z (m := 3) (vs := [db 161, .pointer (some ⟨bv, 0, none⟩), .int .u64 150]) Z Z Z Z (by simp [Value.oneCell']) (by simp [Value.cells]) ?_)
 refine L.nil (At.then (At.seq (At.region ?_)))
 refine L.val Z (am (vs := [db 161, .pointer (some ⟨bv, 0, none⟩), .int .u64 150]) Z Z Z Z) (av Z) ?_
 refine L.pure Z (fK Z fun w _ => yh bv w) ?_
 refine L.as Z Z (L.nil (At.then (At.seq (At.seq (At.region (L.mv Z Z ?_))))))
 refine L.pure Z (dc Z Z (oR _) fun w _ => yx w) ?_
 refine L.pure Z (cr Z Z Z) (L.mv Z Z ?_)
 refine lA Z Z Z (am (vs := [db 161, .pointer (some ⟨bv, 0, none⟩), .int .u64 150]) Z Z Z Z) (av Z) ?_
 refine lA Z Z Z (fK (args := [rv 161 bv 150]) (φ := bI ⟨bv, 0, none⟩ (.pointer (some ⟨t, 0, none⟩))) Z fun w h => vy bv t w h) (ae Z) ?_
 refine L.pure Z (aM Z Z Z) (L.nil (At.then (aj Z (At.skip (At.then (At.seq (At.region (L.mv Z Z ?_))))))))
 refine L.pure Z (dc Z Z (xZ _) fun w _ => yE w) ?_
 refine L.as Z Z (L.nil (At.then (At.seq (At.seq (At.region (L.mv Z Z ?_))))))
 refine L.pure Z (dc Z Z (oR _) fun w _ => Bt w) ?_
 refine L.pure Z (cr Z Z Z) (L.mv Z Z (lT Z Z Z (ag Z) ?_))
 refine lA Z Z Z (aa Z Z) (fun w hw => hE.err w hw.is) ?_
 refine lT Z Z Z (dc Z Z (jF _) fun w _ => mu w) ?_
 refine lT Z Z Z (ck Z Z) (L.pure Z (aM Z Z Z) (L.nil (At.then (aj Z (At.skip (At.then (At.seq (At.region (L.mv Z Z (L.mv Z Z ?_))))))))))
 refine L.val Z (am (vs := [db 161, .pointer (some ⟨bv, 0, none⟩), .int .u64 150]) Z Z Z Z) (av Z) ?_
 refine L.mv Z Z (L.op Z (ah Z Z Z hE (xG x t bv o) (aK (.tail (.head)) (.tail (.head))) ?_))
 rintro v m ⟨rfl, rfl⟩
 refine ai (L.as Z Z (L.nil (At.then (At.ret ?_))))
 exact aA [blk t 159 #[o]] rfl Z ⟨rfl, rfl⟩ (Ent.cons Ent.drop)
end Go.Proofs.YtmeegfamopaljaaGreatDoor

namespace Go.Proofs.YtmeegfamopaljaaGreatDoor
open Go Go.RowKit Go.SL Go.Extern
set_option maxRecDepth 10000
set_option maxHeartbeats 4000000
theorem sb {G : Env → Prop} (b : Nat) (e a : Value) : Does Tryz.prog G 353 [.pointer (some ⟨b, 0, none⟩)].toArray [blk b 164 #[e, a]] fun v m => v = .iface 48 e ∧ m = [blk b 164 #[e, a]] := by
 refine Does.body Tryz.func353 Z Z fun E fr hE => ?_
 refine ai (At.seq (At.region (L.as Z Z (L.nil (At.then (At.seq (At.region (L.mv Z Z (aN Z Z (aE 0 Z Z Z (aX Z Z Z Z (L.pure Z (cG Z Z Z) (L.as Z Z (L.nil (At.then (At.ret ?_))))))))))))))))
 exact aA [_] rfl Z ⟨rfl, rfl⟩ (Ent.refl _)
theorem sI (e : Int) : Does Tryz.prog Good 149 [.iface 48 (.int .i64 e), .iface 48 (.int .i64 e), .bool true].toArray [] fun v m => v = .bool true ∧ m = [] := by
 refine Does.body Tryz.func149 Z Z fun E fr hE => ?_
 refine ay (At.seq (At.region (L.as Z Z (L.nil (At.then (At.block ?_))))))
 refine aT (X := Unit) (fun _ => [(0, .iface 48 (.int .i64 e)), (1, .iface 48 (.int .i64 e)), (2, .bool true)]) (fun _ => fr) (fun _ => True) (fun _ => 0) () trivial ⟨rfl, rfl, rfl, trivial⟩ (Ent.refl _) ?_
 rintro _ _
 refine At.block (At.seq (At.seq (At.region (L.mv Z Z (L.mv Z Z (lT Z Z Z (ag Z) (lT Z Z Z (ag Z) ?_)))))))
 refine lT Z Z Z (nD (r := true) Z Z Z Z Z Z (by simp)) ?_
 refine L.pure Z (aM Z Z Z) (L.nil (At.then (aR Z (At.seq (At.region (L.as Z Z (L.nil (At.then (At.ret (aI (aB (bT (aB ?_)))))))))))))
 exact aA [] rfl Z ⟨rfl, rfl⟩ (Ent.refl _)
theorem sH (b : Nat) (e : Int) (a : Value) : Does Tryz.prog Good 149 [.iface 159 (.pointer (some ⟨b, 0, none⟩)), .iface 48 (.int .i64 e), .bool true].toArray [blk b 164 #[.int .i64 e, a]] fun v m => v = .bool true ∧ m = [blk b 164 #[.int .i64 e, a]] := by
 refine Does.body Tryz.func149 Z Z fun E fr hE => ?_
 refine ai (At.seq (At.region (L.as Z Z (L.nil (At.then (At.block ?_))))))
 refine aT (X := Bool) (fun x => [(0, bif x then .iface 48 (.int .i64 e) else .iface 159 (.pointer (some ⟨b, 0, none⟩))), (1, .iface 48 (.int .i64 e)), (2, .bool true)]) (fun _ => blk b 164 #[.int .i64 e, a] :: fr) (fun _ => True) (fun x => bif x then 0 else 1) false trivial ⟨rfl, rfl, rfl, trivial⟩ (Ent.refl _) ?_
 rintro x _
 refine At.block (At.seq (At.seq ?_))
 by_cases hx : x = true
 ·
  subst hx
  refine At.region (L.mv Z Z (L.mv Z Z (lT Z Z Z (ag Z) (lT Z Z Z (ag Z) ?_))))
  refine lT Z Z Z (nD (r := true) Z Z Z Z Z Z (by simp)) ?_
  refine L.pure Z (aM Z Z Z) (L.nil (At.then (aR Z (At.seq (At.region (L.as Z Z (L.nil (At.then (At.ret (aI (aB (bT (aB ?_)))))))))))))
  exact aA [_] rfl Z ⟨rfl, rfl⟩ (Ent.refl _)
 ·
  obtain rfl : x = false := by simpa using hx
  refine At.region (L.mv Z Z (L.mv Z Z (lT Z Z Z (ag Z) (lT Z Z Z (ag Z) (lT Z Z Z (xq Z Z Z Z) (L.pure Z (aM Z Z Z) (L.nil (At.then (aj Z (At.skip (At.then (At.seq (At.seq (At.region (L.mv Z Z ?_)))))))))))))))
  refine L.pure Z (j8 (z := .nilIface) Z Z (by kernel_rfl) (by kernel_rfl)) ?_
  refine L.mv Z Z (L.ex Z Z Z (L.ex Z Z Z (L.as Z Z (L.as Z Z (L.nil (At.then (At.seq (At.region (L.mv Z Z (L.mv Z Z (L.off Z Z Z Z Z Z (L.off Z Z Z Z Z Z (L.off Z Z Z Z Z Z (L.pure Z (aM Z Z Z) (L.nil (At.then (aj Z (At.skip (At.then ?_)))))))))))))))))))
  refine At.seq (At.region (L.mv Z Z (L.nil (At.then (At.block (At.seq (At.region ?_)))))))
  refine L.pure Z (Ck Z Z (by kernel_rfl)) ?_
  refine L.ex Z Z Z (L.ex Z Z Z (L.nil (At.then (aR Z (At.seq (At.region (L.as Z Z (L.nil (At.then (At.seq (At.region (L.mv Z Z (L.op Z (ef Z Z Z (AI _) Z hE (sb b (.int .i64 e) a) (Ent.refl _) ?_))))))))))))))
  rintro v m ⟨rfl, rfl⟩
  refine ai (L.as Z Z (L.nil (At.then (At.seq (At.region (L.mv Z Z (L.pure Z (co Z Z) (L.nil (At.then (aj Z (At.skip (al (al ?_)))))))))))))
  exact At.round true trivial (by simp) ⟨rfl, rfl, rfl, trivial⟩ (Ent.refl _)
theorem rH (e : Int) : Does Tryz.prog Good 92 [.iface 48 (.int .i64 e), .iface 48 (.int .i64 e)].toArray [] fun v m => v = .bool true ∧ m = [] := by
 refine Does.body Tryz.func92 Z Z fun E fr hE => ?_
 refine ay (At.seq (At.region (L.as Z Z (L.nil (At.then (At.seq (At.seq (At.region (L.mv Z Z (L.pure Z (co Z Z) (L.mv Z Z (lT Z Z Z (ag Z) (lT Z Z Z (co Z Z) (L.pure Z (aM Z Z Z) (L.nil (At.then (aj Z (At.skip (At.then ?_)))))))))))))))))))
 refine At.seq (At.region (L.mv Z Z ?_))
 refine L.pure Z (fK Z fun w _ => mP _ w) ?_
 refine L.pure Z (dc Z Z (mq _) fun w _ => mH w) ?_
 refine L.as Z Z (L.nil (At.then (At.seq (At.region (L.mv Z Z (L.mv Z Z (L.mv Z Z (L.op Z (ah Z Z Z hE (sI e) (Ent.refl _) ?_)))))))))
 rintro v m ⟨rfl, rfl⟩
 refine ay (L.as Z Z (L.nil (At.then (At.ret ?_))))
 exact aA [] rfl Z ⟨rfl, rfl⟩ (Ent.refl _)
theorem zt (b : Nat) (e : Int) (a : Value) : Does Tryz.prog Good 92 [.iface 159 (.pointer (some ⟨b, 0, none⟩)), .iface 48 (.int .i64 e)].toArray [blk b 164 #[.int .i64 e, a]] fun v m => v = .bool true ∧ m = [blk b 164 #[.int .i64 e, a]] := by
 refine Does.body Tryz.func92 Z Z fun E fr hE => ?_
 refine ai (At.seq (At.region (L.as Z Z (L.nil (At.then (At.seq (At.seq (At.region (L.mv Z Z (L.pure Z (co Z Z) (L.mv Z Z (lT Z Z Z (ag Z) (lT Z Z Z (co Z Z) (L.pure Z (aM Z Z Z) (L.nil (At.then (aj Z (At.skip (At.then ?_)))))))))))))))))))
 refine At.seq (At.region (L.mv Z Z ?_))
 refine L.pure Z (fK Z fun w _ => mP _ w) ?_
 refine L.pure Z (dc Z Z (mq _) fun w _ => mH w) ?_
 refine L.as Z Z (L.nil (At.then (At.seq (At.region (L.mv Z Z (L.mv Z Z (L.mv Z Z (L.op Z (ah Z Z Z hE (sH b e a) (Ent.refl _) ?_)))))))))
 rintro v m ⟨rfl, rfl⟩
 refine ai (L.as Z Z (L.nil (At.then (At.ret ?_))))
 exact aA [_] rfl Z ⟨rfl, rfl⟩ (Ent.refl _)
theorem nl : Does Tryz.prog Good 48 [.nilIface].toArray [] fun v m => v = .tuple #[.int .i64 0, .int .i64 (-1)] ∧ m = [] := by
 refine Does.body Tryz.func48 Z Z fun E fr hE => ?_
 refine ay (At.seq (At.region (L.as Z Z (L.as Z Z (L.nil (At.then (At.seq (At.region (L.op Z (aH (z := .pointer none) Z Z fun b4 => (L.nil (At.then (At.seq (At.region (L.op Z (aH (z := .int .i64 0) Z Z fun b5 => (L.nil (At.then (At.seq (At.block (At.seq ?_)))))))))))))))))))))
 refine At.region (L.mv Z Z (L.pure Z (g0 Z Z) (L.as Z Z (L.nil (At.then (aR Z (At.seq (At.region (L.as Z Z (L.as Z Z (L.nil (At.then (At.ret (aB (aI ?_)))))))))))))))
 exact dd [] rfl Z Z ⟨rfl, rfl⟩ (Ent.drop.trans Ent.drop)
theorem tH (e : Int) : Does Tryz.prog Good 48 [.iface 48 (.int .i64 e)].toArray [] fun v m => v = .tuple #[.int .i64 e, .int .i64 (-1)] ∧ m = [] := by
 refine Does.body Tryz.func48 Z Z fun E fr hE => ?_
 refine ay (At.seq (At.region (L.as Z Z (L.as Z Z (L.nil (At.then (At.seq (At.region (L.op Z (aH (z := .pointer none) Z Z fun b4 => (L.nil (At.then (At.seq (At.region (L.op Z (aH (z := .int .i64 0) Z Z fun b5 => (L.nil (At.then (At.seq (At.block (At.seq ?_)))))))))))))))))))))
 refine At.region (L.mv Z Z (L.pure Z (co Z Z) (L.as Z Z (L.nil (At.then (aj Z (At.seq (At.region (L.mv Z Z (L.pure Z (cG Z Z Z) (L.op Z (ah Z Z Z hE (Bp e b4 (.pointer none)) (Ent.sel (.tail (.head))) ?_))))))))))))
 rintro v m ⟨rfl, rfl⟩
 refine ai (L.mv Z Z (L.off Z Z Z Z Z Z (L.off Z Z Z Z Z Z (L.off Z Z Z Z Z Z (L.off Z Z Z Z Z Z (L.off Z Z Z Z Z Z (L.off Z Z Z Z Z Z (L.off Z Z Z Z Z Z (L.pure Z (aM Z Z Z) (L.as Z Z (L.nil (At.then (aj Z (At.seq (At.region (L.mv Z Z (L.pure Z (cG Z Z Z) (L.op Z (ah Z Z Z hE (Ab e b5 (.int .i64 0)) (Ent.sel (.tail (.head))) ?_)))))))))))))))))))
 rintro v m ⟨rfl, rfl⟩
 refine ai (L.mv Z Z (lT Z Z Z (ag Z) (lA Z Z Z (aa Z Z) (ae Z) (lT Z Z Z (cG Z Z Z) (L.on Z Z Z (ah Z Z Z hE (rH e) (Ent.refl _) ?_))))))
 rintro v m ⟨rfl, rfl⟩
 refine ay (L.pure Z (aM Z Z Z) (L.as Z Z (L.nil (At.then (aR Z (At.seq (At.region (aX Z Z Z Z (L.as Z Z (L.as Z Z (L.nil (At.then (At.ret (aB (aI ?_)))))))))))))))
 exact dd [] rfl Z Z ⟨rfl, rfl⟩ (Ent.drop.trans Ent.drop)
theorem tG (b : Nat) (e a : Int) : Does Tryz.prog Good 48 [.iface 159 (.pointer (some ⟨b, 0, none⟩))].toArray [blk b 164 #[.int .i64 e, .int .i64 a]] fun v m => v = .tuple #[.int .i64 e, .int .i64 a] ∧ m = [blk b 164 #[.int .i64 e, .int .i64 a]] := by
 refine Does.body Tryz.func48 Z Z fun E fr hE => ?_
 refine ai (At.seq (At.region (L.as Z Z (L.as Z Z (L.nil (At.then (At.seq (At.region (L.op Z (aH (z := .pointer none) Z Z fun b4 => (L.nil (At.then (At.seq (At.region (L.op Z (aH (z := .int .i64 0) Z Z fun b5 => (L.nil (At.then (At.seq (At.block (At.seq ?_)))))))))))))))))))))
 refine At.region (L.mv Z Z (L.pure Z (co Z Z) (L.as Z Z (L.nil (At.then (aj Z (At.seq (At.region (L.mv Z Z (L.pure Z (cG Z Z Z) ?_))))))))))
 refine L.op Z (ah Z Z Z hE (Aa ⟨b, 0, none⟩ b4 (.pointer none)) (Ent.sel (.tail (.head))) ?_)
 rintro v m ⟨rfl, rfl⟩
 refine ai (L.mv Z Z (lT Z Z Z (ag Z) (lA Z Z Z (aa Z Z) (ae Z) (lT Z Z Z (aq Z) (lT Z Z Z (ab (off := 0) Z Z) (lA Z Z Z (aa Z Z) (ae Z) (lT Z Z Z (cG Z Z Z) (L.on Z Z Z (ah Z Z Z hE (zt b e (.int .i64 a)) (Ent.sel (.tail (.tail (.head)))) ?_)))))))))
 rintro v m ⟨rfl, rfl⟩
 refine ai (L.pure Z (aM Z Z Z) (L.as Z Z (L.nil (At.then (aR Z (At.seq (Dr.start Z (dL 0 Z Z (aa Z Z) (ae Z) (dP 1 Z Z (aq Z) (dP 2 Z Z (ab (off := 0) Z Z) (dL 3 Z Z (aa Z Z) (ae Z) (dL 4 Z Z (aa Z Z) (ae Z) (dP 5 Z Z (aq Z) (dP 6 Z Z (ab (off := 1) Z Z) (dL 7 Z Z (aa Z Z) (ae Z) (dP 8 Z Z (az Z) (dP 9 Z Z (az Z) (dE (At.then ?_)))))))))))))))))))
 refine At.ret (aB (aI ?_))
 exact dd [_] rfl Z Z ⟨rfl, rfl⟩ (Ent.cons (Ent.drop.trans Ent.drop))
end Go.Proofs.YtmeegfamopaljaaGreatDoor

namespace FK
structure Quiet (σ : Dsk) : Prop where
 down : σ.down = false
 left : σ.left = -1
 full : σ.full = -1
 pend : σ.pend = []
def Dsk.logs (σ : Dsk) (n : Nat) (s : ByteArray) : Dsk := { σ with now := cP σ.now ⟨2, aW n, s⟩, dur := cP σ.dur ⟨2, aW n, s⟩ }
def Dsk.rested (σ : Dsk) : Dsk := { σ with left := -1, full := -1 }
def Dsk.spent (σ : Dsk) : Dsk := { σ with left := -3, full := -3 }
theorem Quiet.logs {σ : Dsk} (h : Quiet σ) (n : Nat) (s : ByteArray) : Quiet (σ.logs n s) := ⟨h.down, h.left, h.full, h.pend⟩
theorem Quiet.rested {σ : Dsk} (h : Quiet σ) : σ.rested = σ := by
 obtain ⟨a, b, c, d, e, f⟩ := σ
 obtain ⟨h1, h2, h3, h4⟩ := h
 simp only at h2 h3
 subst h2; subst h3
 rfl
theorem Quiet.add {σ : Dsk} (h : Quiet σ) {J : Jn} (hJ : J.broken = 0) (s : ByteArray) : J.add σ s = (J, (σ.logs J.n s).spent, 0) := by
 obtain ⟨a, b, c, d, e, f⟩ := σ
 obtain ⟨h1, h2, h3, h4⟩ := h
 obtain ⟨n, t, br⟩ := J
 simp only at h1 h2 h3 h4 hJ
 subst h1; subst h2; subst h3; subst h4; subst hJ
 have e1 : Go.IntKind.i64.wrap (-2) = -2 := by decide
 have e2 : Go.IntKind.i64.wrap (-3) = -3 := by decide
 simp [Jn.add, Dsk.tell, Dsk.writes, Dsk.sync, e1, e2, Dsk.logs, Dsk.spent]
end FK
namespace Go.Proofs.YtmeegfamopaljaaGreatDoor
open Go Go.RowKit Go.SL
variable {G : Env → Prop}
abbrev eJ (h d : Nat) (fp : Option Addr) : HP := blk h 118 #[aL d, .pointer fp]
abbrev bA (l fu ke pa : Int) : List Value := [.int .i64 l, .int .i64 fu, .int .i64 ke, .int .i64 pa]
abbrev ya (l fu ke pa : Int) : Value := .agg (bA l fu ke pa).toArray
abbrev fo : Value := ya (-1) (-1) 0 0
set_option maxRecDepth 10000 in
theorem dV : Does Tryz.prog G 18 [].toArray [] fun v m => v = fo ∧ m = [] := by
 refine Does.body Tryz.func18 Z Z fun E fr hE => ?_
 refine ay (At.seq (At.region (L.op Z (aH (z := .agg #[.int .i64 0, .int .i64 0, .int .i64 0, .int .i64 0]) Z Z fun b0 => (L.nil (At.then (At.seq (At.region (L.pure Z (bg (ps := [(0, .const (.int .i64 (-1))), (1, .const (.int .i64 (-1)))]) (vs := [.int .i64 (-1), .int .i64 (-1)]) (cs := (bA (-1) (-1) 0 0).toArray) Z Z Z Z Z) ?_)))))))))
 refine L.op Z (aG Z (m := 4) (vs := bA (-1) (-1) 0 0) Z Z Z Z (by simp [Value.oneCell']) (by show 0 + 4 ≤ 4; omega) ?_)
 refine ax b0 (bA (-1) (-1) 0 0).toArray Z (L.nil (At.then (At.ret ?_)))
 exact m2 [] rfl (bU (vs := bA (-1) (-1) 0 0) Z Z Z Z (av Z)) ⟨rfl, rfl⟩ Ent.drop
set_option maxRecDepth 10000 in
theorem df {h d : Nat} {fp : Option Addr} {σ : FK.Dsk} (l fu ke pa : Int) : Does Tryz.prog G 49 [aL h, ya l fu ke pa].toArray [eJ h d fp, ak d σ] fun v m => v = .tuple #[] ∧ m = [eJ h d fp, ak d { σ with left := l, full := fu }] := by
 refine Does.body Tryz.func49 Z Z fun E fr hE => ?_
 refine aF ?_
 refine At.ex (.tail .head) fun q => bn ?_
 refine At.ent (l' := ko d q σ (eJ h d fp :: fr)) (Ent.refl _) (At.seq (At.region (L.op Z (cc Z Z fun b3 => (L.nil (At.then (Dr.start Z (dP 0 Z Z (ag Z) (dP 1 Z Z (aq Z) (dP 2 Z Z (ab (off := 0) Z Z) (dL 3 Z Z (aa Z Z) (ae Z) (dP 4 Z Z (ag Z) (dP 5 Z Z (aq Z) (dP 6 Z Z (ab (off := 0) Z Z) (dL 7 Z Z (aa Z Z) (ae Z) (dP 8 Z Z (ab (off := 0) Z Z) (dL 9 Z Z (aa Z Z) (ae Z) (dP 10 Z Z (ab (off := 1) Z Z) (dL 11 Z Z (aa Z Z) (ae Z) (dP 12 Z Z (aq Z) ?_))))))))))))))))))))
 refine dP 13 Z Z (ab (off := 3) Z Z) ?_
 refine dR 14 Z Z (bC Z Z Z Z Z (by first | decide | simp | (simp; omega)) ?_)
 refine Dr.kept [true, false, false, false] (by kernel_rfl) (Kept.cons (ae Z) Kept.nil) ?_
 refine dP 15 Z Z (aq Z) (dP 16 Z Z (ab (off := 4) Z Z) ?_)
 refine dR 17 Z Z (bC Z Z Z Z Z (by first | decide | simp | (simp; omega)) ?_)
 refine Dr.kept [false] (by kernel_rfl) Kept.nil ?_
 refine dE ?_
 refine ax d (eX q { σ with left := l, full := fu }) Z ?_
 refine aZ [eJ h d fp, ak d { σ with left := l, full := fu }] rfl ⟨rfl, rfl⟩ ?_
 refine Ent.trans ?_ ((bJ (d := d) q { σ with left := l, full := fu } (r := eJ h d fp :: fr)).trans (Ent.sel (.tail .head)))
 show Ent _ (blk d 131 (eX q { σ with left := l, full := fu }) :: aS q.md q.P σ.dur :: aS q.mn q.P σ.now :: cW q.P :: row 211 3 q.pv σ.pend.length (fm σ.pend) :: eJ h d fp :: fr)
 exact ao
set_option maxRecDepth 10000 in
theorem dz {h d : Nat} {fp : Option Addr} {σ : FK.Dsk} (l fu ke pa : Int) (hd : σ.down = false) : Does Tryz.prog G 51 [aL h, ya l fu ke pa].toArray [eJ h d fp, ak d σ] fun v m => v = .tuple #[] ∧ m = [eJ h d fp, ak d σ.rested] := by
 obtain ⟨dur, now, pend, left, full, down⟩ := σ
 simp only at hd
 subst hd
 refine Does.body Tryz.func51 Z Z fun E fr hE => ?_
 refine aF ?_
 refine At.ex (.tail .head) fun q => bn ?_
 refine At.ent (l' := ko d q ⟨dur, now, pend, left, full, false⟩ (eJ h d fp :: fr)) (Ent.refl _) ?_
 refine At.seq (At.region (L.op Z (cc Z Z fun b3 => (L.nil (At.then (At.seq (At.seq (At.region (L.mv Z Z (aN Z Z (aE 0 Z Z Z (aX Z Z Z Z (aN Z Z (aE 5 Z Z Z (aX Z Z Z Z (L.nil (At.then (aj Z (At.skip (At.then ?_))))))))))))))))))))
 refine Dr.start Z (dP 0 Z Z (ag Z) (dP 1 Z Z (aq Z) (dP 2 Z Z (ab (off := 0) Z Z) (dL 3 Z Z (aa Z Z) (ae Z) (dP 4 Z Z (ag Z) (dP 5 Z Z (aq Z) (dP 6 Z Z (ab (off := 0) Z Z) (dL 7 Z Z (aa Z Z) (ae Z) (dP 8 Z Z (aq Z) (dP 9 Z Z (ab (off := 3) Z Z) ?_))))))))))
 refine dR 10 Z Z (bC Z Z Z Z Z (by first | decide | simp | (simp; omega)) ?_)
 refine Dr.kept [false, false] (by kernel_rfl) Kept.nil ?_
 refine dP 11 Z Z (aq Z) (dP 12 Z Z (ab (off := 4) Z Z) ?_)
 refine dR 13 Z Z (bC Z Z Z Z Z (by first | decide | simp | (simp; omega)) ?_)
 refine Dr.kept [] (by kernel_rfl) Kept.nil ?_
 refine dE ?_
 refine ax d (eX q ⟨dur, now, pend, -1, -1, false⟩) Z ?_
 refine aZ [eJ h d fp, ak d ⟨dur, now, pend, -1, -1, false⟩] rfl ⟨rfl, rfl⟩ ?_
 refine Ent.trans ?_ ((bJ (d := d) q ⟨dur, now, pend, -1, -1, false⟩ (r := eJ h d fp :: fr)).trans (Ent.sel (.tail .head)))
 show Ent _ (blk d 131 (eX q ⟨dur, now, pend, -1, -1, false⟩) :: aS q.md q.P dur :: aS q.mn q.P now :: cW q.P :: row 211 3 q.pv pend.length (fm pend) :: eJ h d fp :: fr)
 exact ao
set_option maxRecDepth 10000 in
theorem fU : Does Tryz.prog Good 54 [.nilIface].toArray [] fun v m => v = .int .i64 0 ∧ m = [] := by
 refine Does.body Tryz.func54 Z Z fun E fr hE => ?_
 refine ay (At.seq (At.region (L.as Z Z (L.nil (At.then (At.seq (At.region (L.mv Z Z (L.op Z (ah Z Z Z hE nl (Ent.refl _) ?_))))))))))
 rintro v m ⟨rfl, rfl⟩
 refine ay (L.mv Z Z (L.ex Z Z Z (L.ex Z Z Z (L.as Z Z (L.as Z Z (L.nil (At.then (At.seq (At.region (L.mv Z Z (L.as Z Z (L.nil (At.then (At.ret ?_))))))))))))))
 exact aA [] rfl Z ⟨rfl, rfl⟩ (Ent.refl _)
set_option maxRecDepth 10000 in
theorem qH (n : Int) : Does Tryz.prog Good 54 [.iface 48 (.int .i64 n)].toArray [] fun v m => v = .int .i64 n ∧ m = [] := by
 refine Does.body Tryz.func54 Z Z fun E fr hE => ?_
 refine ay (At.seq (At.region (L.as Z Z (L.nil (At.then (At.seq (At.region (L.mv Z Z (L.op Z (ah Z Z Z hE (tH n) (Ent.refl _) ?_))))))))))
 rintro v m ⟨rfl, rfl⟩
 refine ay (L.mv Z Z (L.ex Z Z Z (L.ex Z Z Z (L.as Z Z (L.as Z Z (L.nil (At.then (At.seq (At.region (L.mv Z Z (L.as Z Z (L.nil (At.then (At.ret ?_))))))))))))))
 exact aA [] rfl Z ⟨rfl, rfl⟩ (Ent.refl _)
theorem ky (n : Int) : Does Tryz.prog Good 54 [eR n].toArray [] fun v m => v = .int .i64 n ∧ m = [] := by
 unfold eR
 split
 · subst n
   exact fU
 · exact qH n
theorem ku {α : Type} {x : α} : ∀ {l : List α} {j : Nat}, l[j]? = some x → l.Perm (x :: l.eraseIdx j)
 | [], _, h => by simp at h
 | y :: l, 0, h => by simp at h; subst h; exact List.Perm.refl _
 | y :: l, j + 1, h => by
  have := ku (l := l) (j := j) (by simpa using h)
  rw [List.eraseIdx_cons_succ]
  exact (List.Perm.cons y this).trans (List.Perm.swap x y _)
theorem Names.perm {P : List (Nat × ByteArray)} {M M' : List (ByteArray × Nat)} (h : M.Perm M') : ∀ {fs : FK.lC}, Names P M fs → ∃ fs', Names P M' fs' ∧ fs'.Perm fs := by
 induction h with
 | nil => exact fun h => ⟨_, h, List.Perm.refl _⟩
 | cons x _ ih =>
  intro fs h
  cases h with
  | cons a t =>
   obtain ⟨fs', h1, h2⟩ := ih t
   exact ⟨_, .cons a h1, List.Perm.cons _ h2⟩
 | swap x y l =>
  intro fs h
  cases h with
  | cons a t =>
   cases t with
   | cons b t => exact ⟨_, .cons b (.cons a t), List.Perm.swap _ _ _⟩
 | trans _ _ ih1 ih2 =>
  intro fs h
  obtain ⟨f1, h1, h2⟩ := ih1 h
  obtain ⟨f2, h3, h4⟩ := ih2 h1
  exact ⟨f2, h3, h4.trans h2⟩
theorem Names.keys {P : List (Nat × ByteArray)} : ∀ {M : List (ByteArray × Nat)} {fs : FK.lC}, Names P M fs → M.map (·.1) = fs.map (·.1)
 | _, _, .nil => rfl
 | _, _, .cons _ t => by simp only [List.map_cons, t.keys]
theorem zp {V : Type} {m : List (ByteArray × V)} {a : ByteArray} (h : a ∉ m.map (·.1)) (v : V) : FK.fI m a v = m ++ [(a, v)] := by
 refine FK.px ?_ v
 unfold FK.dx
 have : m.find? (·.1 == a) = none := by
  rw [List.find?_eq_none]
  intro x hx he
  have := (MapKept.bytes_beq _ _).1 he
  exact h (by rw [← this]; exact List.mem_map_of_mem (f := (·.1)) hx)
 rw [this]
 rfl
set_option maxRecDepth 10000 in
set_option maxHeartbeats 1000000 in
theorem vc {d md : Nat} {nv pv : Value} {l fu : Int} {dn : Bool} {P : List (Nat × ByteArray)} {dur : FK.lC} (hn : (dur.map (·.1)).Nodup) : Does Tryz.prog G 62 [aL d].toArray [blk d 131 #[.map (some md), nv, pv, .int .i64 l, .int .i64 fu, .bool dn], aS md P dur, cW P] fun v m => v = .tuple #[] ∧ ∃ now', now'.Perm dur ∧ m = [ak d ⟨dur, now', [], l, fu, false⟩] := by
 refine Does.body Tryz.func62 Z Z fun E fr hE => ?_
 refine cu ?_
 refine At.ex (.tail .head) fun M => bn ?_
 refine At.ent (l' := HP.pure (Names P M dur) :: bF bG md (cC M) :: blk d 131 #[.map (some md), nv, pv, .int .i64 l, .int .i64 fu, .bool dn] :: cW P :: fr) (Ent.refl _) (At.pure .head fun hN => ?_)
 have hMn : (M.map (·.1)).Nodup := by rw [hN.keys]; exact hn
 refine At.seq (At.region (L.mv Z Z (L.op Z (fT bG Z fun b5 => (aN Z Z (aE 1 Z Z Z ?_))))))
 refine L.st Z Z Z Z (by first | decide | simp | (simp; omega)) ?_
 refine ax d #[.map (some md), .map (some b5), pv, .int .i64 l, .int .i64 fu, .bool dn] rfl (L.nil (At.then (At.seq (At.seq (At.region (L.mv Z Z (aN Z Z (aE 0 Z Z Z (aX Z Z Z Z (L.op Z (kK (b := md) (m := cC M) Z Z Z (.tail (.tail .head)) fun it => (L.nil (At.then (At.block ?_))))))))))))))
 refine aT (X := List (ByteArray × Nat) × Option (ByteArray × Value) × List (ByteArray × Nat)) (fun _ => [(12, .pointer (some ⟨it, 0, none⟩)), (0, aL d)]) (fun x => ct bG it md (cC M) (cC x.1) x.2.1 :: bF bG b5 (cC x.2.2) :: blk d 131 #[.map (some md), .map (some b5), pv, .int .i64 l, .int .i64 fu, .bool dn] :: cW P :: fr) (fun x => M.Perm (x.2.2 ++ x.1)) (fun x => x.1.length) (M, none, []) (List.Perm.refl _) ⟨rfl, rfl, trivial⟩ (by show Ent _ (ct bG it md (cC M) (cC M) none :: bF bG b5 [] :: blk d 131 #[.map (some md), .map (some b5), pv, .int .i64 l, .int .i64 fu, .bool dn] :: cW P :: fr); exact ao) ?_
 rintro ⟨left, cur, done⟩ hperm
 replace hperm : M.Perm (done ++ left) := hperm
 refine At.ent (l' := ct bG it md (cC M) (cC left) cur :: bF bG b5 (cC done) :: blk d 131 #[.map (some md), .map (some b5), pv, .int .i64 l, .int .i64 fu, .bool dn] :: cW P :: fr) (Ent.refl _) (At.seq ?_)
 by_cases HL : left = []
 ·
  subst HL
  refine At.region ?_
  refine L.op Z (jr Z Z .head (fun _ => ?_) (fun j q hj => by simp at hj))
  refine L.ex Z Z Z (L.nil (At.then (At.seq (aj Z (At.exit (au (ar (an (At.then (At.seq ?_))))))))))
  rw [List.append_nil] at hperm
  obtain ⟨now', hN', hpn⟩ := Names.perm hperm hN
  refine At.region (L.mv Z Z (aN Z Z (aE 2 Z Z Z ?_)))
  refine L.st Z Z Z Z (by first | decide | simp | (simp; omega)) ?_
  refine L.nil (At.then (At.region (L.mv Z Z (aN Z Z (aE 5 Z Z Z ?_)))))
  refine L.st Z Z Z Z (by first | decide | simp | (simp; omega)) ?_
  refine L.nil ?_
  refine ax d (eX ⟨md, b5, .slice none 0 0, P⟩ ⟨dur, now', [], l, fu, false⟩) Z ?_
  refine aZ [ak d ⟨dur, now', [], l, fu, false⟩] rfl ⟨rfl, now', hpn, rfl⟩ ?_
  refine Ent.trans ?_ (bJ ⟨md, b5, .slice none 0 0, P⟩ ⟨dur, now', [], l, fu, false⟩)
  refine (Ent.sel (p := ct bG it md (cC M) (cC []) none) (.tail .head)).trans (Ent.ranged.trans ((bQ hN).trans ?_))
  refine (Ent.sel (p := bF bG b5 (cC done)) (.tail (.tail .head))).trans ((bQ hN').trans ?_)
  refine (Ent.row0 (e := 211) (size := 3)).trans ?_
  show Ent _ (blk d 131 (eX ⟨md, b5, .slice none 0 0, P⟩ ⟨dur, now', [], l, fu, false⟩) :: aS md P dur :: aS b5 P now' :: cW P :: row 211 3 (.slice none 0 0) 0 [] :: fr)
  exact ao
 ·
  refine At.region ?_
  refine L.op Z (jr Z Z .head (fun h => absurd (List.map_eq_nil_iff.1 h) HL) (fun j q hj => ?_))
  obtain ⟨x, hx, rfl⟩ : ∃ x, left[j]? = some x ∧ (x.1, aL x.2) = q := by
   rw [List.getElem?_map] at hj
   cases hl : left[j]? with
   | none => rw [hl] at hj; cases hj
   | some x => rw [hl] at hj; injection hj with hj; exact ⟨x, rfl, hj⟩
  have hjl := (List.getElem?_eq_some_iff.1 hx).1
  have hpe := ku hx
  have hp2 : M.Perm ((done ++ [x]) ++ left.eraseIdx j) := by
   rw [List.append_assoc]
   exact hperm.trans (List.Perm.append_left done hpe)
  have hnew : x.1 ∉ done.map (·.1) := by
   have := (hp2.map (·.1)).nodup_iff.1 hMn
   rw [List.map_append, List.map_append, List.append_assoc, List.nodup_append] at this
   intro hm
   exact this.2.2 _ hm _ (by simp) Z
  rw [← ff]
  refine L.ex Z Z Z (L.nil (At.then (At.seq (aR Z (At.skip (At.then (At.block (At.seq (At.region (L.val Z (nE (p := (x.1, aL x.2)) Z) (kJ .head) (L.ex Z Z Z (L.ex Z Z Z (L.as Z Z (L.as Z Z (L.nil (At.then (At.region (L.mv Z Z (aN Z Z ?_)))))))))))))))))))
  refine aE 1 Z Z Z (aX Z Z Z Z (L.mv Z Z (L.mv Z Z (L.op Z (pV (a := x.1) (v := aL x.2) Z Z gM Z Z Z (.tail .head) ?_)))))
  rw [ru, zp hnew]
  refine L.nil (al ?_)
  exact At.round (left.eraseIdx j, some (x.1, aL x.2), done ++ [x]) hp2 (by show (left.eraseIdx j).length < left.length; rw [List.length_eraseIdx_of_lt hjl]; omega) ⟨rfl, rfl, trivial⟩ (by show Ent _ (ct bG it md (cC M) (cC (left.eraseIdx j)) (some (x.1, aL x.2)) :: bF bG b5 (cC (done ++ [x])) :: blk d 131 #[.map (some md), .map (some b5), pv, .int .i64 l, .int .i64 fu, .bool dn] :: cW P :: fr); exact ao)
set_option maxRecDepth 10000 in
theorem qJ : Does Tryz.prog G 27 [].toArray [] fun v m => ∃ h d, v = aL h ∧ m = [eJ h d none, ak d ⟨[], [], [], -1, -1, false⟩] := by
 refine Does.body Tryz.func27 Z Z fun E fr hE => ?_
 refine ay (At.seq (At.region (L.as Z Z (L.nil (At.then (At.seq (At.region (L.op Z (fT bG Z fun b2 => (L.pure Z (bg (ps := [(0, .tmp 2), (3, .const (.int .i64 (-1))), (4, .const (.int .i64 (-1)))]) (vs := [.map (some b2), .int .i64 (-1), .int .i64 (-1)]) (cs := #[.map (some b2), .map none, .slice none 0 0, .int .i64 (-1), .int .i64 (-1), .bool false]) Z Z Z Z Z) (L.op Z (cc Z Z fun b4 => (L.pure Z (bg (ps := [(0, .tmp 4)]) (vs := [aL b4]) (cs := #[aL b4, .pointer none]) Z Z Z Z Z) (L.op Z (cc Z Z fun b6 => (L.as Z Z (L.nil (At.then (At.seq (At.region (L.mv Z Z (aN Z Z ?_))))))))))))))))))))))
 refine aE 0 Z Z Z (aX Z Z Z Z ?_)
 refine L.op Z (ah Z Z Z hE (vc (md := b2) (P := []) (dur := []) (by simp)) ((aK (.tail .head) (.tail .head)).trans (Ent.cons ((bQ (M := []) .nil).trans (Ent.cons (Ent.all (m := [])))))) ?_)
 rintro v m ⟨rfl, now', hpn, rfl⟩
 refine ai (L.nil (At.then (At.seq (At.region (L.mv Z Z (L.as Z Z (L.nil (At.then (At.ret ?_)))))))))
 have hz : now' = [] := List.Perm.eq_nil hpn
 subst hz
 exact aA [eJ b6 b4 none, ak b4 ⟨[], [], [], -1, -1, false⟩] rfl Z ⟨b6, b4, rfl, rfl⟩ (Ent.sel (.tail .head))
end Go.Proofs.YtmeegfamopaljaaGreatDoor
