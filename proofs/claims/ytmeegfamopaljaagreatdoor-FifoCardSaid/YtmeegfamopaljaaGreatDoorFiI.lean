/- The walks of flow.fields and flow.Bytes. -/
import Derived.Test.YtmeegfamopaljaaGreatDoorFiH
import Derived.Deep.RegionWith
import Derived.Deep.DeepCutAuto
import Derived.StillTailTactics
import Derived.Laws.Externs
import Derived.Stop.Asserts
import Derived.Lib.AppendZerosOnto
import Derived.Recover
namespace Go.Proofs.YtmeegfamopaljaaGreatDoor
open Go Go.RowKit Go.Deep
def fieldPtrs (b o : Nat) : Array Value := #[.pointer (some ⟨b, o, none⟩), .pointer (some ⟨b, o + 1, none⟩), .pointer (some ⟨b, o + 2, none⟩), .pointer (some ⟨b, o + 3, none⟩), .pointer (some ⟨b, o + 4, none⟩), .pointer (some ⟨b, o + 5, none⟩)]
theorem put6 {w : World} {g : Nat} {t : TypeId} {x0 x1 x2 x3 x4 x5 : Value} (h : Blk w g t #[x0, x1, x2, x3, x4, x5]) (u0 u1 u2 u3 u4 u5 : Value) :
    Blk ((((((w.setCell ⟨g, 0, none⟩ u0).setCell ⟨g, 1, none⟩ u1).setCell ⟨g, 2, none⟩ u2).setCell ⟨g, 3, none⟩ u3).setCell ⟨g, 4, none⟩ u4).setCell ⟨g, 5, none⟩ u5) g t #[u0, u1, u2, u3, u4, u5] := by
  have h := h.put 0 u0
  have h := h.put 1 u1
  have h := h.put 2 u2
  have h := h.put 3 u3
  have h := h.put 4 u4
  have h := h.put 5 u5
  simpa using h
set_option maxRecDepth 100000 in
set_option maxHeartbeats 1000000 in
theorem fields_calls (w : World) (b : Nat) :
    Calls Tryz.prog 143 #[.pointer (some ⟨b, 0, none⟩)] w fun e w' => e = .returned (.agg (fieldPtrs b 0)) ∧ Below w.heap.size w w' := by
  go_enter Tryz.func143, Tryz.ntmps143
  go_wp2
  go_still_tail 19, (by kernel_rfl)
  change wpList _ _ _ _ _ ((w.alloc (.cells #[.pointer none, .pointer none, .pointer none, .pointer none, .pointer none, .pointer none] 220)).drew)
  have hblk : Blk ((w.alloc (.cells #[.pointer none, .pointer none, .pointer none, .pointer none, .pointer none, .pointer none] 220)).drew) w.heap.size 220 #[.pointer none, .pointer none, .pointer none, .pointer none, .pointer none, .pointer none] := Blk.made w _ _
  have hb2 : Below w.heap.size w ((w.alloc (.cells #[.pointer none, .pointer none, .pointer none, .pointer none, .pointer none, .pointer none] 220)).drew) := ((Below.refl _ _).alloc (Nat.le_refl _) _).drew
  obtain ⟨w2, hw2⟩ : ∃ w2, w2 = ((w.alloc (.cells #[.pointer none, .pointer none, .pointer none, .pointer none, .pointer none, .pointer none] 220)).drew) := ⟨_, rfl⟩
  rw [← hw2] at hblk hb2 ⊢
  clear hw2
  have c0 := hblk.cell 0
  have c1 := hblk.cell 1
  have c2 := hblk.cell 2
  have c3 := hblk.cell 3
  have c4 := hblk.cell 4
  have c5 := hblk.cell 5
  have f0 := hblk.free 0
  have f1 := hblk.free 1
  have f2 := hblk.free 2
  have f3 := hblk.free 3
  have f4 := hblk.free 4
  have f5 := hblk.free 5
  simp only [List.getElem?_toArray, List.getElem?_cons_zero, List.getElem?_cons_succ] at c0 c1 c2 c3 c4 c5
  have HB := Lib.hid hblk
  clear hblk
  go_wp2
  have hbF : Below w.heap.size w ((((((w2.setCell ⟨w.heap.size, 0, none⟩ (.pointer (some ⟨b, 0, none⟩))).setCell ⟨w.heap.size, 1, none⟩ (.pointer (some ⟨b, 1, none⟩))).setCell ⟨w.heap.size, 2, none⟩ (.pointer (some ⟨b, 2, none⟩))).setCell ⟨w.heap.size, 3, none⟩ (.pointer (some ⟨b, 3, none⟩))).setCell ⟨w.heap.size, 4, none⟩ (.pointer (some ⟨b, 4, none⟩))).setCell ⟨w.heap.size, 5, none⟩ (.pointer (some ⟨b, 5, none⟩))) := (((((hb2.setCell (by simp) _).setCell (by simp) _).setCell (by simp) _).setCell (by simp) _).setCell (by simp) _).setCell (by simp) _
  have hfin : Blk (((((((w2.setCell ⟨w.heap.size, 0, none⟩ (.pointer (some ⟨b, 0, none⟩))).setCell ⟨w.heap.size, 1, none⟩ (.pointer (some ⟨b, 1, none⟩))).setCell ⟨w.heap.size, 2, none⟩ (.pointer (some ⟨b, 2, none⟩))).setCell ⟨w.heap.size, 3, none⟩ (.pointer (some ⟨b, 3, none⟩))).setCell ⟨w.heap.size, 4, none⟩ (.pointer (some ⟨b, 4, none⟩))).setCell ⟨w.heap.size, 5, none⟩ (.pointer (some ⟨b, 5, none⟩)))) w.heap.size 220 (fieldPtrs b 0) :=
    put6 HB.out _ _ _ _ _ _
  obtain ⟨w3, hw3⟩ : ∃ w3, w3 = ((((((w2.setCell ⟨w.heap.size, 0, none⟩ (.pointer (some ⟨b, 0, none⟩))).setCell ⟨w.heap.size, 1, none⟩ (.pointer (some ⟨b, 1, none⟩))).setCell ⟨w.heap.size, 2, none⟩ (.pointer (some ⟨b, 2, none⟩))).setCell ⟨w.heap.size, 3, none⟩ (.pointer (some ⟨b, 3, none⟩))).setCell ⟨w.heap.size, 4, none⟩ (.pointer (some ⟨b, 4, none⟩))).setCell ⟨w.heap.size, 5, none⟩ (.pointer (some ⟨b, 5, none⟩))) := ⟨_, rfl⟩
  rw [← hw3] at hfin hbF ⊢
  clear hw3 c0 c1 c2 c3 c4 c5 f0 f1 f2 f3 f4 f5 HB hb2
  have d0 := hfin.cell 0
  have d1 := hfin.cell 1
  have d2 := hfin.cell 2
  have d3 := hfin.cell 3
  have d4 := hfin.cell 4
  have d5 := hfin.cell 5
  simp only [fieldPtrs, List.getElem?_toArray, List.getElem?_cons_zero, List.getElem?_cons_succ] at d0 d1 d2 d3 d4 d5
  refine bodyPost_ret (v := .agg (fieldPtrs b 0)) (by simp [results, Tryz.results143, go_sem, d0, d1, d2, d3, d4, d5, fieldPtrs]) rfl ?_
  exact ⟨rfl, hbF⟩
theorem flat_len {α : Type} (f : α → List UInt8) (c : Nat) : ∀ (l : List α), (∀ x ∈ l, (f x).length ≤ c) → (l.flatMap f).length ≤ c * l.length
  | [], _ => by simp
  | x :: l, h => by
    have := flat_len f c l fun y hy => h y (by simp [hy])
    have h0 := h x (by simp)
    simp only [List.flatMap_cons, List.length_append, List.length_cons, Nat.mul_add]; omega
theorem encNode_len {n : FK.Node} {len : Nat} (hlen : len ≤ 12) (hn : FK.NodeOk n) (he : FK.EdgesOk len (-1) n.after) : (FK.encNode n).length ≤ 57 := by
  obtain ⟨a1, a2, ⟨b1, b2⟩, ⟨c1, c2⟩, ⟨d1, d2⟩, ⟨e1, e2⟩, f1, f2⟩ := hn
  have hb := he.bounds
  have hal : n.after.length ≤ 12 := by
    rcases he.length_le (by omega) with h | h
    · omega
    · rw [h]; simp
  have h := flat_len (fun k : Int => FK.encN k.toNat) 3 n.after fun k hk => FK.encN_length_le (by have := hb k hk; omega)
  have g1 := FK.encN_length_le (n := n.budget.toNat) (by omega)
  have g2 := FK.encN_length_le (n := n.close.toNat) (by omega)
  have g3 := FK.encN_length_le (n := n.beat.toNat) (by omega)
  have g4 := FK.encN_length_le (n := n.base.toNat) (by omega)
  have g5 := FK.encN_length_le (n := n.cap.toNat) (by omega)
  have g6 := FK.encN_length_le (n := n.jitter.toNat) (by omega)
  have g7 := FK.encN_length_le (n := n.after.length) (by omega)
  simp only [FK.encNode, List.length_append]
  omega
def nums (n : FK.Node) : List Int := [n.budget, n.close, n.beat, n.base, n.cap, n.jitter]
theorem encNode_nums (n : FK.Node) : FK.encNode n = (nums n).flatMap (fun k => FK.encN k.toNat) ++ FK.encN n.after.length ++ n.after.flatMap fun k => FK.encN k.toNat := by
  simp [FK.encNode, nums]
end Go.Proofs.YtmeegfamopaljaaGreatDoor

namespace Go.SL
open Go Go.RowKit Go.Proofs.YtmeegfamopaljaaGreatDoor
section
variable {P : Program} {E : Env} {n : Nat} {D : List Deferred} {ts : List (Nat × Value)} {l : List HP} {ops : Array Oper} {Q : Exit → Act → World → Prop} {rest : List Oper} {i : Nat} {ty : TypeId} {pos : String} {af : Array Edge} {g : Option (Nat × Bool)}
def Gives (P : Program) (G : Env → Prop) (f : FuncId) (args : Array Value) (φ : World → Prop) (R : Value → List HP → Prop) : Prop :=
  ∀ E w, G E → E.is w → φ w → Calls P f args w fun e w' => ∃ v m, e = .returned v ∧ R v m ∧ Holds E w' (m ++ [old E w])
variable {G : Env → Prop}
theorem Gives.below {f : FuncId} {args : Array Value} {φ : World → Prop} {R : Value → Prop} (h : ∀ E w, G E → E.is w → φ w → Calls P f args w fun e w' => ∃ v, e = .returned v ∧ R v ∧ Below w.heap.size w w') : Gives P G f args φ fun v m => R v ∧ m = [] := fun E w hE hw hφ =>
  (h E w hE hw hφ).mono fun _e _w' ⟨v, he, hR, hb⟩ => ⟨v, [], he, ⟨hR, rfl⟩, (Holds.start hw).below hb⟩
theorem Gives.of_calls {f : FuncId} {args : Array Value} {φ : World → Prop} {v : Value} (h : ∀ E w, G E → E.is w → φ w → Calls P f args w fun e w' => e = .returned v ∧ Below w.heap.size w w') : Gives P G f args φ fun u m => u = v ∧ m = [] :=
  Gives.below fun E w hE hw hφ => (h E w hE hw hφ).mono fun _ _ ⟨he, hb⟩ => ⟨v, he, rfl, hb⟩
theorem o_give {f : FuncId} {xs : List Operand} {at_ : Array TypeId} {args : List Value} {φ : World → Prop} {R : Value → List HP → Prop} {K : Act → World → Prop} (hi : Nat.blt i n = true) (hb : hasBody P f = true) (hx : evs ts xs = some args) (hE : G E)
    (hs : Gives P G f args.toArray φ R) (hφ : ∀ w, Holds E w l → φ w) (h : ∀ v m, R v m → At E n D ((i, v) :: ts) (m ++ l) K) :
    At E n D ts l (fun a w => (Oper.mk (some i) (.call { callee := .value (.func f), args := xs.toArray, argTypes := at_ }) ty pos af g).wp P a w K Q) := fun a w ft hw => by
  have := evs_eval ft.knows hx
  have hr : (execOp a.eval (Oper.mk (some i) (.call { callee := .value (.func f), args := xs.toArray, argTypes := at_ }) ty pos af g)).run P w = .ok (.enter f args.toArray) w := by
    simp [execOp, resolve, Deferred.ofValue, Act.eval, invoke, this, run_callFunc hb]
  show (Oper.mk (some i) (.call { callee := .value (.func f), args := xs.toArray, argTypes := at_ }) ty pos af g).wp P a w K Q
  unfold Oper.wp
  rw [hr]
  refine (hs E w hE hw.is (hφ w hw)).mono fun e w' ⟨v, m, he, hR, hh⟩ => ?_
  subst he
  exact h v m hR _ w' (ft.put i (Nat.le_of_ble_eq_true hi) v) (Holds.later hw hh)
theorem Gives.body {f : FuncId} {fn : Func} {c : Code} {args : List Value} {φ : World → Prop} {R : Value → List HP → Prop} (hf : P.funcs[f]? = some fn) (hb : fn.body = some c) (hn : Nat.ble args.length fn.ntmps = true)
    (h : ∀ E w0, G E → E.is w0 → φ w0 → At E fn.ntmps [] (argSlots 0 args) [old E w0] (c.wp P (Ends P fn E [old E w0] R))) : Gives P G f args.toArray φ R := fun E w hE hw hφ => by
  refine calls_of_wp hf hb (h E w hE hw hφ _ _ ⟨?_, rfl, ?_⟩ (Holds.start hw))
  · have := Nat.le_of_ble_eq_true hn
    simp; omega
  · intro i v hi
    obtain ⟨_, h2⟩ := argSlots_get args 0 i v hi
    rw [Nat.sub_zero] at h2
    have hlt : i < args.length := (List.getElem?_eq_some_iff.1 h2).1
    simp [Array.getElem?_append, hlt, (List.getElem?_eq_some_iff.1 h2).2]
theorem oldAt {w0 : World} {r : List HP} {φ : World → Prop} (s : Sel (old E w0) l r) (h0 : E.is w0) (h : ∀ w, Below w0.heap.size w0 w → φ w) : ∀ w, Holds E w l → φ w := fun w hw => h w (hw.old s h0)
theorem cellOld {w0 : World} {r : List HP} {b o : Nat} {v : Value} (s : Sel (old E w0) l r) (h0 : E.is w0) (hv : w0.cell? ⟨b, o, none⟩ = some v) : ∀ w, Holds E w l → CellIs ⟨b, o, none⟩ v w :=
  oldAt s h0 fun w hb => by
    have := World.block_lt_of_cell? _ _ hv
    exact (hb.cell this).trans hv
theorem rowOld {w0 : World} {r : List HP} {b o : Nat} {vs : List Value} (s : Sel (old E w0) l r) (h0 : E.is w0) (hv : ∀ j v, vs[j]? = some v → w0.cell? ⟨b, o + j, none⟩ = some v) : ∀ w, Holds E w l → RowIs b o vs w :=
  oldAt s h0 fun w hb j v hj => by
    have := World.block_lt_of_cell? _ _ (hv j v hj)
    exact (hb.cell this).trans (hv j v hj)
theorem Gives.does {f : FuncId} {args : Array Value} {R : Value → List HP → Prop} (h : Gives P G f args (fun _ => True) R) : Does P G f args [] R := fun E w _fr hE hw =>
  (h E w hE hw.is trivial).mono fun _e _w' ⟨v, m, he, hR, hh⟩ => ⟨v, m, he, hR, Holds.later hw hh⟩
end
end Go.SL
namespace Go.Proofs.YtmeegfamopaljaaGreatDoor
open Go Go.RowKit Go.SL
variable {G : Env → Prop}
abbrev bytesAt (v : Value) (l : List UInt8) : HP := row 5 1 v l.length (bytesV l)
theorem fields_does (b : Nat) : Does Tryz.prog G 143 #[.pointer (some ⟨b, 0, none⟩)] [] fun v m => v = .agg (fieldPtrs b 0) ∧ m = [] :=
  (Gives.of_calls (φ := fun _ => True) fun _ w _ _ _ => fields_calls w b).does
theorem does_of_num {f : FuncId} {args : Array Value} {v : Value} {l l' : List UInt8} (h : ∀ w, OwnBytes w 0 v l → Calls Tryz.prog f args w (NumPost w 0 v l')) : Does Tryz.prog G f args [bytesAt v l] fun v' m => m = [bytesAt v' l'] := fun E w fr _ hw => by
  refine (h w (hw.row .head)).mono fun e w' ⟨v', he, hown, hg, hm⟩ => ⟨v', _, he, rfl, ?_⟩
  exact Holds.grown hw hg hown hm
theorem number_does (v : Value) (l : List UInt8) (m : Nat) (hm : m < 18446744073709551616) (hl : l.length ≤ 1099511627776) : Does Tryz.prog G 142 #[v, .int .u64 m] [bytesAt v l] fun v' r => r = [bytesAt v' (l ++ FK.encN m)] :=
  does_of_num fun w ho => flow_Number_calls w 0 v l m hm ho hl (Nat.zero_le _)
theorem nodesLater {E : Env} {l r : List HP} {w0 : World} {B : Nat} {A : Option Addr} {c : Nat} {ns : List FK.Node} (s : Sel (old E w0) l r) (h0 : E.is w0) (h : NodesAt w0 B A c ns) (hB : B ≤ w0.heap.size) : ∀ w, Holds E w l → NodesAt w w.heap.size A c ns :=
  oldAt s h0 fun _w hb => (h.keep (hb.to_same.mono hB)).more (Nat.le_trans hB hb.size)
end Go.Proofs.YtmeegfamopaljaaGreatDoor

namespace Go.SL
open Go Go.RowKit
section
variable {P : Program} {G : Env → Prop} {E : Env} {n : Nat} {D : List Deferred} {ts : List (Nat × Value)} {l : List HP} {ops : Array Oper} {Q : Exit → Act → World → Prop} {rest : List Oper} {i : Nat} {ty : TypeId} {pos : String} {af : Array Edge} {g : Option (Nat × Bool)}
theorem rowAll {b : Nat} {t : TypeId} {cs : Array Value} {fz : Nat × Nat} {r : List HP} {vs : List Value} [h : Has b l (.cells cs t fz) r] (hv : cs = vs.toArray) : ∀ w, Holds E w l → RowIs b 0 vs w := rowIs fun j v hj => by
  subst hv
  simpa using hj
def DoesX (P : Program) (G : Env → Prop) (f : FuncId) (args : Array Value) (pre : List HP) (R : Value → List HP → Prop) (X : List PanicEntry → List HP → Prop) : Prop :=
  ∀ E w fr, G E → Holds E w (pre ++ fr) → Calls P f args w fun e w' => (∃ v m, e = .returned v ∧ R v m ∧ Holds E w' (m ++ fr)) ∨ ∃ c m, e = .panicked c ∧ X c m ∧ Holds E w' (m ++ fr)
def EndsX (P : Program) (fn : Func) (E : Env) (fr : List HP) (R : Value → List HP → Prop) (X : List PanicEntry → List HP → Prop) : Exit → Act → World → Prop :=
  bodyPost P fn fun e w' => (∃ v m, e = .returned v ∧ R v m ∧ Holds E w' (m ++ fr)) ∨ ∃ c m, e = .panicked c ∧ X c m ∧ Holds E w' (m ++ fr)
theorem DoesX.body {f : FuncId} {fn : Func} {c : Code} {args : List Value} {pre : List HP} {R : Value → List HP → Prop} {X : List PanicEntry → List HP → Prop} (hf : P.funcs[f]? = some fn) (hb : fn.body = some c) (hn : Nat.ble args.length fn.ntmps = true)
    (h : ∀ E fr, G E → At E fn.ntmps [] (argSlots 0 args) (pre ++ fr) (c.wp P (EndsX P fn E fr R X))) : DoesX P G f args.toArray pre R X := by
  intro E w fr hE hw
  refine calls_of_wp hf hb (h E fr hE _ _ ⟨?_, rfl, ?_⟩ hw)
  · have := Nat.le_of_ble_eq_true hn
    simp; omega
  · intro i v hi
    obtain ⟨_, h2⟩ := argSlots_get args 0 i v hi
    rw [Nat.sub_zero] at h2
    have hlt : i < args.length := (List.getElem?_eq_some_iff.1 h2).1
    simp [Array.getElem?_append, hlt, (List.getElem?_eq_some_iff.1 h2).2]
theorem At.endsX {fn : Func} {fr : List HP} {R : Value → List HP → Prop} {X : List PanicEntry → List HP → Prop} {e : Exit} (he : e = .ret ∨ e = .normal) (h : At E n D ts l (Ends P fn E fr R e)) : At E n D ts l (EndsX P fn E fr R X e) := fun a w f hw => by
  have := h a w f hw
  rcases he with rfl | rfl
  · obtain ⟨hd, v, hr, hx⟩ := this
    exact ⟨hd, v, hr, .inl hx⟩
  · obtain ⟨hd, v, hr, hx⟩ := this
    exact ⟨hd, v, hr, .inl hx⟩
theorem At.panicX {fn : Func} {fr : List HP} {R : Value → List HP → Prop} {X : List PanicEntry → List HP → Prop} {c : List PanicEntry} (m : List HP) (hX : X c m) (hm : Ent l (m ++ fr)) : At E n [] ts l (EndsX P fn E fr R X (.panic c)) := fun _ _ f hw =>
  ⟨f.defers, .inr ⟨c, m, rfl, hX, hw.ent hm⟩⟩
theorem At.thenPanic {K : Act → World → Prop} {c : List PanicEntry} (h : At E n D ts l (Q (.panic c))) : At E n D ts l (Exit.then K Q (.panic c)) := h
theorem At.inBlockPanic {id : Nat} {c : List PanicEntry} (h : At E n D ts l (Q (.panic c))) : At E n D ts l (Exit.inBlock id Q (.panic c)) := h
theorem At.roundPanic {X : Type} {T : X → List (Nat × Value)} {L : X → List HP} {I : X → Prop} {μ : X → Nat} {m : Nat} {c : List PanicEntry} (h : At E n D ts l (Q (.panic c))) : At E n D ts l (Round n D E T L I μ m Q (.panic c)) := h
theorem o_panic {x : Operand} {t : TypeId} {v : Value} {d : Option Tmp} {K : Act → World → Prop} (hx : ev ts x = some (.iface t v)) (h : At E n D ts l (Q (.panic [{ v := .iface t v, recovered := false }]))) : At E n D ts l (fun a w => (Oper.mk d (.panic x) ty pos af g).wp P a w K Q) := fun a w f hw => by
  have hr : (execOp a.eval (Oper.mk d (.panic x) ty pos af g)).run P w = .halt (.panic (.iface t v)) w := by simp [execOp, f.eval hx, Instr.panic]
  show (Oper.mk d (.panic x) ty pos af g).wp P a w K Q
  unfold Oper.wp
  rw [hr]
  exact h a w f hw
theorem wp_enterX {o : Oper} {f : FuncId} {args : Array Value} {pre fr : List HP} {R : Value → List HP → Prop} {X : List PanicEntry → List HP → Prop} {K : Act → World → Prop} {a : Act} {w : World} (hr : (execOp a.eval o).run P w = .ok (.enter f args) w) (hE : G E) (hs : DoesX P G f args pre R X) (hw : Holds E w (pre ++ fr))
    (hk : ∀ v m w', R v m → Holds E w' (m ++ fr) → K (a.put o.dst v) w') (hp : ∀ c m w', X c m → Holds E w' (m ++ fr) → Q (.panic c) a w') : o.wp P a w K Q := by
  unfold Oper.wp
  rw [hr]
  refine (hs E w fr hE hw).mono fun e w' h => ?_
  rcases h with ⟨v, m, he, hR, hm⟩ | ⟨c, m, he, hX, hm⟩
  · subst he
    exact hk v m w' hR hm
  · subst he
    exact hp c m w' hX hm
theorem o_callX {f : FuncId} {xs : List Operand} {at_ : Array TypeId} {args : List Value} {pre fr : List HP} {R : Value → List HP → Prop} {X : List PanicEntry → List HP → Prop} {K : Act → World → Prop} (hi : Nat.blt i n = true) (hb : hasBody P f = true) (hx : evs ts xs = some args) (hE : G E)
    (hs : DoesX P G f args.toArray pre R X) (hl : Ent l (pre ++ fr)) (hp : ∀ c m, X c m → At E n D ts (m ++ fr) (Q (.panic c))) (h : ∀ v m, R v m → At E n D ((i, v) :: ts) (m ++ fr) K) :
    At E n D ts l (fun a w => (Oper.mk (some i) (.call { callee := .value (.func f), args := xs.toArray, argTypes := at_ }) ty pos af g).wp P a w K Q) := fun a w ft hw => by
  refine wp_enterX (f := f) (args := args.toArray) ?_ hE hs (hw.ent hl) (fun v m w' hR hm => h v m hR _ w' (ft.put i (Nat.le_of_ble_eq_true hi) v) hm) fun c m w' hX hm => hp c m hX a w' ft hm
  have := evs_eval ft.knows hx
  simp [execOp, resolve, Deferred.ofValue, Act.eval, invoke, this, run_callFunc hb]
theorem o_callVX {x : Operand} {f : FuncId} {first captured : Array Value} {xs : List Operand} {at_ : Array TypeId} {args : List Value} {pre fr : List HP} {R : Value → List HP → Prop} {X : List PanicEntry → List HP → Prop} {K : Act → World → Prop} (hi : Nat.blt i n = true)
    (hv : ev ts x = some (.func (.func f) first captured)) (hb : hasBody P f = true) (hx : evs ts xs = some args) (hE : G E) (hs : DoesX P G f (first ++ args.toArray ++ captured) pre R X) (hl : Ent l (pre ++ fr)) (hp : ∀ c m, X c m → At E n D ts (m ++ fr) (Q (.panic c)))
    (h : ∀ v m, R v m → At E n D ((i, v) :: ts) (m ++ fr) K) :
    At E n D ts l (fun a w => (Oper.mk (some i) (.call { callee := .value x, args := xs.toArray, argTypes := at_ }) ty pos af g).wp P a w K Q) := fun a w ft hw => by
  refine wp_enterX (f := f) (args := first ++ args.toArray ++ captured) ?_ hE hs (hw.ent hl) (fun v m w' hR hm => h v m hR _ w' (ft.put i (Nat.le_of_ble_eq_true hi) v) hm) fun c m w' hX hm => hp c m hX a w' ft hm
  have := evs_eval ft.knows hx
  simp [execOp, resolve, Deferred.ofValue, ft.eval hv, invoke, this, run_callFunc hb]
theorem ev_ext {f : FuncId} {xs : List Operand} {at_ : Array TypeId} {args : List Value} {v : Value} {φ : World → Prop} (hx : evs ts xs = some args) (h : ∀ w, φ w → (callFunc f args.toArray).run P w = .ok (.value v) w) : Ev P ts (.call { callee := .value (.func f), args := xs.toArray, argTypes := at_ }) v φ := by
  intro a w _ _ _ _ _ kn hφ
  have := evs_eval kn hx
  simp [execOp, resolve, Deferred.ofValue, Act.eval, invoke, this, h w hφ]
theorem ev_mext {r : Operand} {m : String} {t : TypeId} {u : Value} {f : FuncId} {u' : Value} {xs : List Operand} {at_ : Array TypeId} {args : List Value} {v : Value} {φ : World → Prop} (hr : ev ts r = some (.iface t u)) (hx : evs ts xs = some args) (hm : ∀ w, (Go.method (P.types.size + Made.depth) t u m).run P w = .ok (f, u') w)
    (h : ∀ w, φ w → (callFunc f (u' :: args).toArray).run P w = .ok (.value v) w) : Ev P ts (.call { callee := .invoke r m, args := xs.toArray, argTypes := at_ }) v φ := by
  intro a w _ _ _ _ _ kn hφ
  have h1 := evs_eval kn hx
  have h2 : (#[a.eval r] ++ (xs.toArray.map a.eval)) = #[Value.iface t u] ++ args.toArray := by simp [kn.eval hr, h1]
  simp only [execOp, resolve, Sem.run_bind, Sem.run_pure, Result.andThen_ok, h2, invoke]
  simp [callMethod, hm, h w hφ]
theorem o_ext {f : FuncId} {xs : List Operand} {at_ : Array TypeId} {args : List Value} {o : Obj} {v : Nat → Value} {K : Act → World → Prop} (hi : Nat.blt i n = true) (hx : evs ts xs = some args) (hr : ∀ w, (callFunc f args.toArray).run P w = .ok (.value (v w.heap.size)) (w.alloc o))
    (h : ∀ b, At E n D ((i, v b) :: ts) (ob b o :: l) K) : At E n D ts l (fun a w => (Oper.mk (some i) (.call { callee := .value (.func f), args := xs.toArray, argTypes := at_ }) ty pos af g).wp P a w K Q) := fun a w ft hw => by
  have h1 := evs_eval ft.knows hx
  have : (execOp a.eval (Oper.mk (some i) (.call { callee := .value (.func f), args := xs.toArray, argTypes := at_ }) ty pos af g)).run P w = .ok (.value (v w.heap.size)) (w.alloc o) := by
    simp [execOp, resolve, Deferred.ofValue, Act.eval, invoke, h1, hr w]
  show (Oper.mk (some i) (.call { callee := .value (.func f), args := xs.toArray, argTypes := at_ }) ty pos af g).wp P a w K Q
  unfold Oper.wp
  rw [this]
  exact h _ _ _ (ft.put i (Nat.le_of_ble_eq_true hi) _) (hw.alloc _)
theorem o_invoke {r : Operand} {m : String} {t : TypeId} {u : Value} {f : FuncId} {u' : Value} {xs : List Operand} {at_ : Array TypeId} {args : List Value} {pre fr : List HP} {R : Value → List HP → Prop} {K : Act → World → Prop} (hi : Nat.blt i n = true) (hr : ev ts r = some (.iface t u)) (hx : evs ts xs = some args)
    (hm : ∀ w, (Go.method (P.types.size + Made.depth) t u m).run P w = .ok (f, u') w) (hb : hasBody P f = true) (hE : G E) (hs : Does P G f (u' :: args).toArray pre R) (hl : Ent l (pre ++ fr)) (h : ∀ v m, R v m → At E n D ((i, v) :: ts) (m ++ fr) K) :
    At E n D ts l (fun a w => (Oper.mk (some i) (.call { callee := .invoke r m, args := xs.toArray, argTypes := at_ }) ty pos af g).wp P a w K Q) := fun a w ft hw => by
  refine wp_enter (f := f) (args := (u' :: args).toArray) ?_ hE hs (hw.ent hl) fun v m w' hR hm => h v m hR _ w' (ft.put i (Nat.le_of_ble_eq_true hi) v) hm
  have h1 := evs_eval ft.knows hx
  have h2 : (#[a.eval r] ++ (xs.toArray.map a.eval)) = #[Value.iface t u] ++ args.toArray := by simp [ft.eval hr, h1]
  simp only [execOp, resolve, Sem.run_bind, Sem.run_pure, Result.andThen_ok, h2, invoke]
  simp [callMethod, hm, run_callFunc hb]
theorem ev_as {x : Operand} {t s : TypeId} {u : Value} {d : TypeDesc} (hd : P.underlying s = some d) (hn : (match d with | .interface _ => true | _ => false) = false) (hx : ev ts x = some (.iface s u)) : Ev P ts (.typeAssert x t s true) (.tuple #[u, .bool true]) Any := by
  intro a w _ _ _ _ _ kn _
  simp only [execOp, kn.eval hx, Instr.typeAssert, Sem.run_bind, run_underlying hd, Result.andThen_ok]
  cases d <;> simp_all
theorem ev_asI {x : Operand} {t s s' : TypeId} {u : Value} {ms : Array (String × TypeId)} (hd : P.underlying s = some (.interface ms)) (hx : ev ts x = some (.iface s' u)) (hl : (P.info? s').map (fun i => (Go.lacking ms i.methods).isEmpty) = some true) : Ev P ts (.typeAssert x t s true) (.tuple #[.iface s' u, .bool true]) Any := by
  intro a w _ _ _ _ _ kn _
  simp [execOp, kn.eval hx, Go.run_typeAssert_hasB hd hl u t w]
theorem ev_asINot {x : Operand} {t s s' : TypeId} {u z : Value} {ms : Array (String × TypeId)} (hd : P.underlying s = some (.interface ms)) (hx : ev ts x = some (.iface s' u)) (hl : (P.info? s').map (fun i => (Go.lacking ms i.methods).isEmpty) = some false) (hz : (P.info? s).map (·.zero) = some (some z)) : Ev P ts (.typeAssert x t s true) (.tuple #[z, .bool false]) Any := by
  intro a w _ _ _ _ _ kn _
  simp [execOp, kn.eval hx, Go.run_typeAssert_lacksB hd hl hz u t w]
theorem ev_eqlNeT {t t' : TypeId} {x y : Operand} {s s' : TypeId} {u v : Value} {ms : Array (String × TypeId)} (ht : P.underlying t = some (.interface ms)) (hx : ev ts x = some (.iface s u)) (hy : ev ts y = some (.iface s' v)) (hne : Nat.beq s s' = false) : Ev P ts (.binOp .eql t x y t') (.bool false) Any := by
  intro ac w _ _ _ _ _ kn _
  have : s ≠ s' := fun e => by subst e; simp at hne
  exact exec_bin (kn.eval hx) (kn.eval hy) (by simp [eqGuard]) (bin_eql rfl fun d => by simp [Op.equalIn, run_underlying ht, this])
theorem ev_eqlEI {t t' : TypeId} {x y : Operand} {s : TypeId} {k : IntKind} {u v : Int} {ms : Array (String × TypeId)} {ti : TypeInfo} {r : Bool} (ht : P.underlying t = some (.interface ms)) (hs : P.underlying s = some (.int k)) (hi : P.info? s = some ti) (hc : ti.comparable = true) (hx : ev ts x = some (.iface s (.int k u))) (hy : ev ts y = some (.iface s (.int k v))) (hr : (u == v) = r) : Ev P ts (.binOp .eql t x y t') (.bool r) Any := by
  intro ac w _ _ _ _ _ kn _
  subst hr
  refine exec_bin (kn.eval hx) (kn.eval hy) (by simp [eqGuard]) ?_
  have h : ∀ d, (Op.equalIn (d + 2) t (.iface s (.int k u)) (.iface s (.int k v))).run P w = .ok (u == v) w := fun d => by
    simp [Op.equalIn, run_underlying ht, run_underlying hs, typeInfo, hi, hc]
  show (do pure (.bool (← Op.equal t (.iface s (.int k u)) (.iface s (.int k v)))) : Sem Value).run P w = _
  simp only [Op.equal, Op.maxDepth, Sem.run_bind, h 9998, Result.andThen_ok, Sem.run_pure]
def Res (P : Program) (E : Env) (ts : List (Nat × Value)) (l : List HP) (r : ResultVar) (v : Value) : Prop :=
  ∀ (a : Act) (w : World), (∀ i u, look i ts = some u → a.tmps[i]? = some u) → Holds E w l → ((match r with | .tmp t => pure (a.tmps.getD t undef) | .cell c t => do loadVar t (← asAddr (a.tmps.getD c undef))) : Sem Value).run P w = .ok v w
theorem Res.tmp {t : Nat} {v : Value} (h : look t ts = some v) : Res P E ts l (.tmp t) v := fun a w k _ => by simp [getD_of (k t v h)]
theorem Res.cell1 {c : Nat} {t : TypeId} {p : Addr} {v : Value} (hd : isAggB P t = some false) (h : look c ts = some (.pointer (some p))) (hc : ∀ w, Holds E w l → CellIs p v w) : Res P E ts l (.cell c t) v := fun a w k hw => by
  simp only [getD_of (k c _ h), asAddr, Sem.run_bind, Sem.run_pure, Result.andThen_ok]
  exact run_loadVar1 hd (hc w hw)
theorem Res.cellN {c : Nat} {t : TypeId} {b o m : Nat} {vs : List Value} (hd : isAggB P t = some true) (hz : sizeIs P t m) (hm : vs.length = m) (h : look c ts = some (.pointer (some ⟨b, o, none⟩))) (hc : ∀ w, Holds E w l → RowIs b o vs w) : Res P E ts l (.cell c t) (.agg vs.toArray) := fun a w k hw => by
  simp only [getD_of (k c _ h), asAddr, Sem.run_bind, Sem.run_pure, Result.andThen_ok]
  exact run_loadVarN hd hz hm (hc w hw)
theorem results_of1 {fn : Func} {r : ResultVar} {v : Value} (hr : fn.results = #[r]) (h : Res P E ts l r v) {a : Act} {w : World} (k : ∀ i u, look i ts = some u → a.tmps[i]? = some u) (hw : Holds E w l) : (results fn a.tmps).run P w = .ok v w := by
  have := h a w k hw
  simp only [results, hr]
  simp only [Array.mapM_eq_mapM_toList, List.mapM_cons, List.mapM_nil, Sem.run_bind, Sem.run_map]
  cases r <;> simp_all
theorem results_of2 {fn : Func} {r s : ResultVar} {u v : Value} (hr : fn.results = #[r, s]) (h : Res P E ts l r u) (h' : Res P E ts l s v) {a : Act} {w : World} (k : ∀ i u, look i ts = some u → a.tmps[i]? = some u) (hw : Holds E w l) : (results fn a.tmps).run P w = .ok (.tuple #[u, v]) w := by
  have h1 := h a w k hw
  have h2 := h' a w k hw
  simp only [results, hr]
  simp only [Array.mapM_eq_mapM_toList, List.mapM_cons, List.mapM_nil, Sem.run_bind, Sem.run_map]
  cases r <;> cases s <;> simp_all
theorem results_of3 {fn : Func} {r s q : ResultVar} {u v x : Value} (hr : fn.results = #[r, s, q]) (h : Res P E ts l r u) (h' : Res P E ts l s v) (h'' : Res P E ts l q x) {a : Act} {w : World} (k : ∀ i u, look i ts = some u → a.tmps[i]? = some u) (hw : Holds E w l) : (results fn a.tmps).run P w = .ok (.tuple #[u, v, x]) w := by
  have h1 := h a w k hw
  have h2 := h' a w k hw
  have h3 := h'' a w k hw
  simp only [results, hr]
  simp only [Array.mapM_eq_mapM_toList, List.mapM_cons, List.mapM_nil, Sem.run_bind, Sem.run_map]
  cases r <;> cases s <;> cases q <;> simp_all
theorem At.res1 {fn : Func} {fr : List HP} {R : Value → List HP → Prop} {r : ResultVar} {v : Value} (m : List HP) (hr : fn.results = #[r]) (h : Res P E ts l r v) (hR : R v m) (hm : Ent l (m ++ fr)) : At E n [] ts l (Ends P fn E fr R .ret) := fun _ _ f hw =>
  ⟨f.defers, v, results_of1 hr h f.get hw, _, m, rfl, hR, hw.ent hm⟩
theorem At.res2 {fn : Func} {fr : List HP} {R : Value → List HP → Prop} {r s : ResultVar} {u v : Value} (m : List HP) (hr : fn.results = #[r, s]) (h : Res P E ts l r u) (h' : Res P E ts l s v) (hR : R (.tuple #[u, v]) m) (hm : Ent l (m ++ fr)) : At E n [] ts l (Ends P fn E fr R .ret) := fun _ _ f hw =>
  ⟨f.defers, _, results_of2 hr h h' f.get hw, _, m, rfl, hR, hw.ent hm⟩
theorem At.res3 {fn : Func} {fr : List HP} {R : Value → List HP → Prop} {r s q : ResultVar} {u v x : Value} (m : List HP) (hr : fn.results = #[r, s, q]) (h : Res P E ts l r u) (h' : Res P E ts l s v) (h'' : Res P E ts l q x) (hR : R (.tuple #[u, v, x]) m) (hm : Ent l (m ++ fr)) : At E n [] ts l (Ends P fn E fr R .ret) := fun _ _ f hw =>
  ⟨f.defers, _, results_of3 hr h h' h'' f.get hw, _, m, rfl, hR, hw.ent hm⟩
end
end Go.SL

namespace Go.Proofs.YtmeegfamopaljaaGreatDoor
open Go Go.RowKit Go.Deep
def intsV (l : List Int) : List Value := l.map (Value.int .i64)
def nodeCells (n : FK.Node) (v : Value) : List Value := [.int .i64 n.budget, .int .i64 n.close, .int .i64 n.beat, .int .i64 n.base, .int .i64 n.cap, .int .i64 n.jitter, v]
def nodesV : List FK.Node → List Value → List Value
  | n :: l, v :: vs => nodeCells n v ++ nodesV l vs
  | _, _ => []
def OwnInts (w : World) (base : Nat) (v : Value) (l : List Int) : Prop := w.ownsRow base 3 1 v l.length (intsV l)
structure OwnNodes (w : World) (base : Nat) (v : Value) (l : List FK.Node) (vs : List Value) : Prop where
  len : vs.length = l.length
  row : w.ownsRow base 46 7 v l.length (nodesV l vs)
  ints : ∀ (i : Nat) (n : FK.Node) (u : Value), l[i]? = some n → vs[i]? = some u → OwnInts w base u n.after
theorem nodesV_snoc : ∀ (l : List FK.Node) (vs : List Value) (n : FK.Node) (v : Value), vs.length = l.length → nodesV (l ++ [n]) (vs ++ [v]) = nodesV l vs ++ nodeCells n v
  | [], [], n, v, _ => by simp [nodesV]
  | [], _ :: _, _, _, h => by simp at h
  | _ :: _, [], _, _, h => by simp at h
  | m :: l, u :: vs, n, v, h => by simp only [List.cons_append, nodesV, nodesV_snoc l vs n v (by simpa using h), List.append_assoc]
theorem nodesV_at : ∀ (l : List FK.Node) (vs : List Value) (i j : Nat) (n : FK.Node) (v : Value), vs.length = l.length → l[i]? = some n → vs[i]? = some v → j < 7 → (nodesV l vs)[i * 7 + j]? = (nodeCells n v)[j]?
  | [], _, i, _, _, _, _, h, _, _ => by simp at h
  | _ :: _, [], i, _, _, _, h, _, _, _ => by simp at h
  | m :: l, u :: vs, 0, j, n, v, h, h1, h2, hj => by
    simp at h1 h2; subst h1; subst h2
    simp only [nodesV, Nat.zero_mul, Nat.zero_add]
    rw [List.getElem?_append_left (by simp [nodeCells]; omega)]
  | m :: l, u :: vs, i + 1, j, n, v, h, h1, h2, hj => by
    simp only [List.getElem?_cons_succ] at h1 h2
    simp only [nodesV]
    rw [List.getElem?_append_right (by simp [nodeCells]; omega)]
    have : (i + 1) * 7 + j - (nodeCells m u).length = i * 7 + j := by simp [nodeCells]; omega
    rw [this]
    exact nodesV_at l vs i j n v (by simpa using h) h1 h2 hj
theorem infoInt : (Tryz.prog.info? 3).map (fun i => (i.zero, i.size, i.bytes)) = some (some (.int .i64 0), 1, 8) := by kernel_rfl
theorem infoNode : (Tryz.prog.info? 46).map (fun i => (i.zero, i.size, i.bytes)) = some (some (.agg #[.int .i64 0, .int .i64 0, .int .i64 0, .int .i64 0, .int .i64 0, .int .i64 0, .slice none 0 0]), 7, 72) := by kernel_rfl
def FlowFits (l : List FK.Node) : Prop := l.length * 72 ≤ 140737488355328 ∧ ∀ n ∈ l, n.after.length * 8 ≤ 140737488355328
theorem OwnNodes.same {w w' : World} {base : Nat} {v : Value} {l : List FK.Node} {vs : List Value} (h : OwnNodes w base v l vs) (hs : ∀ k, base ≤ k → k < w.heap.size → w'.heap[k]? = w.heap[k]?) : OwnNodes w' base v l vs :=
  ⟨h.len, own_same h.row fun k hk => hs k (own_lt h.row hk).1 (own_lt h.row hk).2, fun i n u h1 h2 => own_same (h.ints i n u h1 h2) fun k hk => hs k (own_lt (h.ints i n u h1 h2) hk).1 (own_lt (h.ints i n u h1 h2) hk).2⟩
theorem OwnNodes.snoc {w w2 : World} {base : Nat} {v v2 u : Value} {l : List FK.Node} {vs : List Value} {n : FK.Node} (h : OwnNodes w base v l vs) (hu : OwnInts w base u n.after)
    (hown2 : w2.ownsRow base 46 7 v2 (l.length + 1) (nodesV l vs ++ nodeCells n u)) (hg : w.grownBy w2 v.ownBlock) : OwnNodes w2 base v2 (l ++ [n]) (vs ++ [u]) := by
  have key : ∀ (u : Value) (ys : List Int), OwnInts w base u ys → OwnInts w2 base u ys := fun u ys hu =>
    World.ownsRow.kept hu hg (own_beside hu h.row (by decide))
  refine ⟨by simp [h.len], ?_, ?_⟩
  · rw [nodesV_snoc _ _ _ _ h.len, List.length_append]
    exact hown2
  · intro i m x hi hx
    rcases Nat.lt_trichotomy i l.length with hlt | heq | hgt
    · rw [List.getElem?_append_left hlt] at hi
      rw [List.getElem?_append_left (by rw [h.len]; exact hlt)] at hx
      exact key _ _ (h.ints i m x hi hx)
    · subst heq
      rw [List.getElem?_append_right (Nat.le_refl _)] at hi
      rw [List.getElem?_append_right (by rw [h.len]; exact Nat.le_refl _), h.len] at hx
      simp at hi hx
      subst hi; subst hx
      exact key _ _ hu
    · rw [List.getElem?_eq_none (by simp; omega)] at hi
      cases hi
theorem OwnNodes.nodesAt {w : World} {base : Nat} {A : Option Addr} {c : Nat} {l : List FK.Node} {vs : List Value} (h : OwnNodes w base (.slice A l.length c) l vs)
    (hr : ∀ n ∈ l, (i64 n.budget ∧ i64 n.close ∧ i64 n.beat ∧ i64 n.base ∧ i64 n.cap ∧ i64 n.jitter) ∧ ∀ x ∈ n.after, i64 x) : NodesAt w w.heap.size A c l := by
  have hrow := h.row
  rcases hrow.2 with ⟨he, h0⟩ | ⟨g, cap, cur, he, hb, hg, h1, h2, _⟩
  · injection he with _ _ hc
    subst hc
    exact ⟨by omega, by omega, fun hl => by omega⟩
  · injection he with hA _ hc
    subst hA; subst hc
    refine ⟨h1, by unfold maxLen at h2; omega, fun hl => ⟨g, 0, rfl, (own_lt hrow rfl).2, fun i n hn => ?_⟩⟩
    obtain ⟨hi, _⟩ := List.getElem?_eq_some_iff.1 hn
    have hu : ∃ u, vs[i]? = some u := ⟨vs[i]'(by rw [h.len]; exact hi), by simp⟩
    obtain ⟨u, hu⟩ := hu
    have hint := h.ints i n u hn hu
    have hcell : ∀ j x, j < 7 → (nodeCells n u)[j]? = some x → w.cell? ⟨g, 0 + i * 7 + j, none⟩ = some x := fun j x hj hx => by
      have := hrow.cells (g := g) rfl (i * 7 + j) x (by rw [nodesV_at l vs i j n u h.len hn hu hj]; exact hx)
      have e : (⟨g, 0, none⟩ : Addr).add (i * 7 + j) = ⟨g, i * 7 + j, none⟩ := by unfold Addr.add; split <;> simp_all
      rw [e] at this
      rw [Nat.zero_add]; exact this
    obtain ⟨A6, c6, rfl, hA6, h6, h6'⟩ := own_form hint
    have hrn := hr n (List.mem_of_getElem? hn)
    refine ⟨hcell 0 _ (by omega) rfl, hcell 1 _ (by omega) rfl, hcell 2 _ (by omega) rfl, hcell 3 _ (by omega) rfl, hcell 4 _ (by omega) rfl, hcell 5 _ (by omega) rfl, ⟨A6, c6, hcell 6 _ (by omega) rfl, hrn.2, h6, by unfold maxLen at h6'; omega, fun hl => ?_⟩, hrn.1⟩
    rcases hint.2 with ⟨he, h0⟩ | ⟨g6, cap6, cur6, he, _⟩
    · omega
    · injection he with hA _ _
      subst hA
      refine ⟨g6, 0, rfl, (own_lt hint rfl).2, fun j x hx => ?_⟩
      have := hint.cells (g := g6) rfl j (.int .i64 x) (by simp [intsV, hx])
      have e : (⟨g6, 0, none⟩ : Addr).add j = ⟨g6, j, none⟩ := by unfold Addr.add; split <;> simp_all
      rw [e] at this
      rw [Nat.zero_add]; exact this
end Go.Proofs.YtmeegfamopaljaaGreatDoor

namespace Go.SL
open Go Go.RowKit
section
variable {P : Program} {E : Env} {n : Nat} {D : List Deferred} {ts : List (Nat × Value)} {l : List HP}
theorem At.openRow {e : TypeId} {size m : Nat} {v : Value} {xs : List Value} {r : List HP} {K : Act → World → Prop} (s : Sel (row e size v m xs) l r)
    (h0 : v = .slice none 0 0 → m = 0 → xs = [] → At E n D ts r K)
    (h1 : ∀ g cap cur, v = .slice (some ⟨g, 0, none⟩) m cap → xs.length = m * size → m ≤ cap → cap ≤ maxLen → cur.size = cap * size → cur.toList.take (m * size) = xs → At E n D ts (blk g e cur :: r) K) : At E n D ts l K := fun a w f hw => by
  have h := hw.sel s
  obtain ⟨F1, F2, hF1, hF2, hd, ⟨⟨hlen, hown⟩, hF⟩, hl⟩ := h.star
  rcases hown with ⟨rfl, rfl⟩ | ⟨g, cap, cur, rfl, _, hg, hm, hc, hs, ht⟩
  · exact h0 rfl rfl (List.eq_nil_of_length_eq_zero (by simpa using hlen)) a w f ⟨hw.is, hl.mono hF2⟩
  · exact h1 g cap cur rfl hlen hm hc hs ht a w f ⟨hw.is, F1, F2, hF1, hF2, hd, ⟨hF g rfl, hg⟩, hl⟩
theorem At.formRow {e : TypeId} {size m : Nat} {v : Value} {xs : List Value} {r : List HP} {K : Act → World → Prop} (s : Sel (row e size v m xs) l r)
    (h : ∀ A c, v = .slice A m c → (A = none → m = 0 ∧ c = 0) → (∀ ad, A = some ad → ∃ g, ad = ⟨g, 0, none⟩) → m ≤ c → c ≤ maxLen → xs.length = m * size → At E n D ts l K) : At E n D ts l K := fun a w f hw => by
  obtain ⟨hlen, hown⟩ := hw.row s
  rcases hown with ⟨rfl, rfl⟩ | ⟨g, cap, cur, rfl, _, hg, hm, hc, hs, ht⟩
  · exact h none 0 rfl (fun _ => ⟨rfl, rfl⟩) (fun _ hx => by cases hx) (Nat.le_refl _) (Nat.zero_le _) hlen a w f hw
  · exact h _ cap rfl (fun hx => by cases hx) (fun ad hx => by injection hx with hx; exact ⟨g, hx.symm⟩) hm hc hlen a w f hw
theorem Ent.closeRow {e : TypeId} {size m g cap : Nat} {cur : Array Value} {xs : List Value} {r : List HP} (hm : m ≤ cap) (hc : cap ≤ maxLen) (hs : cur.size = cap * size) (ht : cur.toList.take (m * size) = xs) :
    Ent (blk g e cur :: r) (row e size (.slice (some ⟨g, 0, none⟩) m cap) m xs :: r) := fun w _ ⟨F1, F2, h1, h2, hd, hp, hl⟩ =>
  ⟨F1, F2, h1, h2, hd, ⟨⟨by rw [← ht]; simp [hs]; rw [Nat.min_eq_left hm], .inr ⟨g, cap, cur, rfl, Nat.zero_le _, hp.2, hm, hc, hs, ht⟩⟩, fun k hk => by injection hk with hk; subst hk; exact hp.1⟩, hl⟩
theorem rowIn {e : TypeId} {size m g o c : Nat} {xs vs : List Value} {r : List HP} (s : Sel (row e size (.slice (some ⟨g, 0, none⟩) m c) m xs) l r) (h : ∀ j u, vs[j]? = some u → xs[o + j]? = some u) : ∀ w, Holds E w l → RowIs g o vs w := fun w hw j v hj => by
  have := (hw.row s).cells (g := g) rfl (o + j) v (h j v hj)
  rwa [add_plain, Nat.zero_add] at this
theorem cellIn {e : TypeId} {size m g o c : Nat} {xs : List Value} {u : Value} {r : List HP} (s : Sel (row e size (.slice (some ⟨g, 0, none⟩) m c) m xs) l r) (h : xs[o]? = some u) : ∀ w, Holds E w l → CellIs ⟨g, o, none⟩ u w := fun w hw => by
  have := (hw.row s).cells (g := g) rfl o u h
  rwa [add_plain, Nat.zero_add] at this
end
theorem At.openAll {E : Env} {n : Nat} {D : List Deferred} {ts : List (Nat × Value)} {m l : List HP} {K : Act → World → Prop} (h : At E n D ts (m ++ l) K) : At E n D ts (HP.all m :: l) K := fun a w f hw => h a w f (hw.ent Ent.unall)
end Go.SL
namespace Go.Proofs.YtmeegfamopaljaaGreatDoor
open Go Go.RowKit Go.SL
abbrev intsAt (v : Value) (l : List Int) : HP := row 3 1 v l.length (intsV l)
def aftsAt (vs : List Value) (l : List FK.Node) : List HP := (vs.zip l).map fun p => intsAt p.1 p.2.after
def nodesOwn (v : Value) (l : List FK.Node) : HP := HP.ex fun vs : List Value => HP.all (HP.pure (vs.length = l.length) :: row 46 7 v l.length (nodesV l vs) :: aftsAt vs l)
theorem Star.mem {w : World} {p : HP} : ∀ {l : List HP} {F : Nat → Prop}, Star w l F → p ∈ l → p.sat w F
  | [], _, _, h => by cases h
  | q :: l, F, ⟨F1, F2, h1, h2, hd, hp, hl⟩, h => by
    rcases List.mem_cons.1 h with rfl | h
    · exact p.loc h1 (fun _ _ => rfl) hp
    · exact p.loc h2 (fun _ _ => rfl) (Star.mem hl h)
theorem nodesOwn.own {E : Env} {w : World} {v : Value} {ns : List FK.Node} {l r : List HP} (s : Sel (nodesOwn v ns) l r) (hw : Holds E w l) : ∃ vs, OwnNodes w 0 v ns vs := by
  obtain ⟨F1, F2, h1, h2, hd, ⟨vs, hp⟩, hl⟩ := (hw.sel s).star
  obtain ⟨_, G2, _, _, _, hlen, _, G4, _, _, _, hrow, hafts⟩ := hp
  refine ⟨vs, hlen, hrow.1, fun i nd u hi hu => ?_⟩
  have hz : (vs.zip ns)[i]? = some (u, nd) := by simp [List.getElem?_zip_eq_some, hi, hu]
  have hm : intsAt u nd.after ∈ aftsAt vs ns := List.mem_map.2 ⟨(u, nd), List.mem_of_getElem? hz, rfl⟩
  exact (Star.mem hafts hm).1
theorem nodesOwn.at {E : Env} {A : Option Addr} {c : Nat} {ns : List FK.Node} {l r : List HP} (s : Sel (nodesOwn (.slice A ns.length c) ns) l r) (hr : ∀ n ∈ ns, (i64 n.budget ∧ i64 n.close ∧ i64 n.beat ∧ i64 n.base ∧ i64 n.cap ∧ i64 n.jitter) ∧ ∀ x ∈ n.after, i64 x) :
    ∀ w, Holds E w l → NodesAt w w.heap.size A c ns := fun w hw => by
  obtain ⟨vs, h⟩ := nodesOwn.own s hw
  exact h.nodesAt hr
theorem nodesOwn.ent {v : Value} {ns : List FK.Node} {vs : List Value} {r : List HP} (h : vs.length = ns.length) : Ent (row 46 7 v ns.length (nodesV ns vs) :: (aftsAt vs ns ++ r)) (nodesOwn v ns :: r) := by
  have e1 : Ent (row 46 7 v ns.length (nodesV ns vs) :: (aftsAt vs ns ++ r)) ((HP.pure (vs.length = ns.length) :: row 46 7 v ns.length (nodesV ns vs) :: aftsAt vs ns) ++ r) := Ent.pure h
  exact (e1.trans Ent.all).trans (Ent.ex (f := fun vs : List Value => HP.all (HP.pure (vs.length = ns.length) :: row 46 7 v ns.length (nodesV ns vs) :: aftsAt vs ns)) vs)
theorem At.openNodes {E : Env} {n : Nat} {D : List Deferred} {ts : List (Nat × Value)} {l r : List HP} {K : Act → World → Prop} {v : Value} {ns : List FK.Node} (s : Sel (nodesOwn v ns) l r)
    (h : ∀ vs : List Value, vs.length = ns.length → At E n D ts (row 46 7 v ns.length (nodesV ns vs) :: (aftsAt vs ns ++ r)) K) : At E n D ts l K := fun a w f hw => by
  obtain ⟨F1, F2, h1, h2, hd, ⟨vs, hp⟩, hl⟩ := (hw.sel s).star
  obtain ⟨F3, F4, h3, h4, hd', hlen, hp⟩ := hp
  refine h vs hlen a w f ⟨hw.is, ?_⟩
  exact Star.join (l := row 46 7 v ns.length (nodesV ns vs) :: aftsAt vs ns) (F1 := F1) (F2 := F2) h1 h2 hd (Star.mono h4 hp) hl
end Go.Proofs.YtmeegfamopaljaaGreatDoor

namespace Go.SL
open Go Go.RowKit
section
variable {P : Program} {E : Env} {n : Nat} {D : List Deferred} {ts : List (Nat × Value)} {l : List HP} {ops : Array Oper} {Q : Exit → Act → World → Prop} {rest : List Oper} {i : Nat} {ty : TypeId} {pos : String} {af : Array Edge} {g : Option (Nat × Bool)}
theorem evAs {op : Op} {v v' : Value} {φ : World → Prop} (h : Ev P ts op v φ) (e : v = v') : Ev P ts op v' φ := e ▸ h
theorem ev_capS {t t' : TypeId} {x : Operand} {p : Option Addr} {m c : Nat} (ht : P.underlying t = some (.slice t')) (hx : ev ts x = some (.slice p m c)) : Ev P ts (.call { callee := .builtin .cap, args := #[x], argTypes := #[t] }) (.int .i64 c) Any := by
  intro a w _ _ _ _ _ kn _
  simp [execOp, resolve, invoke, builtin, Builtin.cap_, kn.eval hx, run_underlying ht, goInt]
theorem o_room {s x : Operand} {t tn e : TypeId} {z : Value} {bytes : Nat} {kn : IntKind} {k : Nat} {K : Act → World → Prop} (hi : Nat.blt i n = true) (ht : P.underlying t = some (.slice e)) (htn : P.underlying tn = some (.int kn)) (hel : elemIs P e z 1 bytes) (hzs : z.cells.size = 1)
    (hs : ev ts s = some (.slice none 0 0)) (hx : ev ts x = some (.int .i64 k)) (h0 : 0 < k) (hm : k ≤ maxLen) (hb : k * bytes ≤ 140737488355328)
    (h : ∀ b cap, k ≤ cap → At E n D ((i, .slice (some ⟨b, 0, none⟩) k cap) :: ts) (row e 1 (.slice (some ⟨b, 0, none⟩) 0 cap) 0 [] :: l) K) :
    At E n D ts l (fun a w => (Oper.mk (some i) (.call { callee := .builtin .append, args := #[s, x], argTypes := #[t, tn] }) ty pos af g).wp P a w K Q) := fun a w f hw => by
  obtain ⟨ti, hti, e0, e1, e2⟩ := info_parts hel
  have hold : (Builtin.firstCells ti.size 0 (.slice none 0 0)).run P w.drew = .ok ([] : List Value).toArray w.drew := rfl
  have h63 : k ≤ 9223372036854775807 := by unfold maxLen at hm; omega
  have hcap : Builtin.nextslicecap (0 + k) 0 * ti.bytes ≤ 281474976710656 := by
    have : Builtin.nextslicecap (0 + k) 0 = k := by
      unfold Builtin.nextslicecap
      rw [if_pos (by omega)]
      omega
    rw [this, e2]
    omega
  have hr := Go.Lib.run_append_grow_zeros (P := P) w t tn ty e ti z .i64 kn ht htn hti e0 none 0 0 [] hold k h0 (by rw [e1]; omega) (by omega) (by omega) (by rw [e2]; omega) hcap
  obtain ⟨cap, hcape⟩ : ∃ cap, cap = grownCap w (0 + k) 0 e := ⟨_, rfl⟩
  rw [← hcape] at hr
  have hge : k ≤ cap := by rw [hcape]; have := grownCap_ge w (0 + k) 0 e; omega
  have hle : cap ≤ maxLen := by rw [hcape]; exact grownCap_le_maxLen w (0 + k) 0 e (by omega)
  have : (execOp a.eval (Oper.mk (some i) (.call { callee := .builtin .append, args := #[s, x], argTypes := #[t, tn] }) ty pos af g)).run P w = .ok (.value (.slice (some ⟨w.heap.size, 0, none⟩) (0 + k) cap)) (w.drew.alloc (.cells (([] : List Value).toArray ++ Builtin.zeroCells z.cells k ++ Builtin.zeroCells z.cells (cap - (0 + k))) e)) := by
    simp [execOp, resolve, invoke, builtin, f.eval hs, f.eval hx, hr]
  show (Oper.mk (some i) (.call { callee := .builtin .append, args := #[s, x], argTypes := #[t, tn] }) ty pos af g).wp P a w K Q
  unfold Oper.wp
  rw [this, Nat.zero_add]
  have hsz : ∀ m, (Builtin.zeroCells z.cells m).size = m := fun m => by unfold Builtin.zeroCells; simp [hzs]
  refine h _ _ hge _ _ (f.put i (Nat.le_of_ble_eq_true hi) _) (((hw.drawn _).alloc _).ent ?_)
  refine Ent.closeRow (m := 0) (Nat.zero_le _) hle ?_ (by simp)
  simp [hsz]
  omega
end
end Go.SL

namespace Go.SL
open Go Go.RowKit
section
variable {P : Program} {G : Env → Prop} {E : Env} {n : Nat} {D : List Deferred} {ts : List (Nat × Value)} {l : List HP} {ops : Array Oper} {Q : Exit → Act → World → Prop} {rest : List Oper} {i : Nat} {ty : TypeId} {pos : String} {af : Array Edge} {g : Option (Nat × Bool)}
def placesOf (P : Program) : List Field → Option (List (Nat × Nat))
  | [] => some []
  | f :: fs => match P.info? f.type, placesOf P fs with
    | some i, some r => some ((f.offset, i.size) :: r)
    | _, _ => none
theorem run_places {w : World} : ∀ {fs : List Field} {pl : List (Nat × Nat)}, placesOf P fs = some pl → (fs.mapM fun f => (do pure (f.offset, ← sizeOf f.type) : Sem (Nat × Nat))).run P w = .ok pl w
  | [], pl, h => by simp [placesOf] at h; subst h; simp
  | f :: fs, pl, h => by
    simp only [placesOf] at h
    split at h
    · rename_i i r hi hr
      injection h with h
      subst h
      have hsz : (sizeOf f.type).run P w = .ok i.size w := by simp [sizeOf, typeInfo, hi]
      rw [List.mapM_cons]
      simp only [Sem.run_bind, hsz, Result.andThen_ok, Sem.run_pure, run_places hr]
    · cases h
theorem ev_build {t : TypeId} {fs : Array Field} {pl : List (Nat × Nat)} {z : Value} {ps : List (Nat × Operand)} {vs : List Value} {cs : Array Value} (hu : P.underlying t = some (.struct fs)) (hp : placesOf P fs.toList = some pl) (hz : zeroIs P t z)
    (hx : evs ts (ps.map (·.2)) = some vs) (hf : Instr.fill (pl.toArray[·]?) z.cells ((ps.map (·.1)).zip vs) = some cs) : Ev P ts (.build t ps.toArray) (.agg cs) Any := by
  intro a w _ _ _ _ _ kn _
  have he : (ps.toArray.map fun p => (p.1, a.eval p.2)).toList = (ps.map (·.1)).zip vs := by
    have := evs_eval kn hx
    rw [← this]
    simp
    clear hx hf this
    induction ps with
    | nil => rfl
    | cons p ps ih => simp; exact ih
  simp only [execOp, Instr.build, Sem.run_bind, run_zeroIs hz, run_underlying hu, Result.andThen_ok, Array.mapM_eq_mapM_toList, Sem.run_map, run_places hp, he]
  simp only [Result.andThen_ok, hf, Sem.run_pure]
def DoesD (P : Program) (G : Env → Prop) (f : FuncId) (args : Array Value) (u u' : FrameMode) (pre : List HP) (R : List HP → Prop) : Prop :=
  ∀ E w fr, G E → Holds E w (pre ++ fr) → CallsD P f args u w fun e u'' w' => e = .returned (.tuple #[]) ∧ u'' = u' ∧ ∃ m, R m ∧ Holds E w' (m ++ fr)
def EndsF (P : Program) (fn : Func) (E : Env) (fr : List HP) (R : Value → List HP → Prop) : Exit → Act → World → Prop :=
  bodyPostD P fn fun e w' => ∃ v m, e = .returned v ∧ R v m ∧ Holds E w' (m ++ fr)
theorem Does.bodyF {f : FuncId} {fn : Func} {c : Code} {args : List Value} {pre : List HP} {R : Value → List HP → Prop} (hf : P.funcs[f]? = some fn) (hb : fn.body = some c) (hn : Nat.ble args.length fn.ntmps = true)
    (h : ∀ E fr, G E → At E fn.ntmps [] (argSlots 0 args) (pre ++ fr) (c.wp P (EndsF P fn E fr R))) : Does P G f args.toArray pre R := by
  intro E w fr hE hw
  refine calls_of_wp_defers hf hb (h E fr hE _ _ ⟨?_, rfl, ?_⟩ hw)
  · have := Nat.le_of_ble_eq_true hn
    simp; omega
  · intro i v hi
    obtain ⟨_, h2⟩ := argSlots_get args 0 i v hi
    rw [Nat.sub_zero] at h2
    have hlt : i < args.length := (List.getElem?_eq_some_iff.1 h2).1
    simp [Array.getElem?_append, hlt, (List.getElem?_eq_some_iff.1 h2).2]
theorem o_defer {x : Operand} {f : FuncId} {first cap : Array Value} {K : Act → World → Prop} (hx : ev ts x = some (.func (.func f) first cap)) (h : At E n ({ target := .fn (.func f) cap, args := first } :: D) ts l K) :
    At E n D ts l (fun a w => (Oper.mk none (.defer { callee := .value x, args := #[], argTypes := #[] }) ty pos af g).wp P a w K Q) := fun a w ft hw => by
  have hr : (execOp a.eval (Oper.mk none (.defer { callee := .value x, args := #[], argTypes := #[] }) ty pos af g)).run P w = .ok (.defer { target := .fn (.func f) cap, args := first }) w := by
    simp [execOp, resolve, Deferred.ofValue, ft.eval hx]
  show (Oper.mk none (.defer { callee := .value x, args := #[], argTypes := #[] }) ty pos af g).wp P a w K Q
  unfold Oper.wp
  rw [hr]
  exact h _ w ⟨ft.size, by simp [Act.put, ft.defers], fun i v hi => ft.get i v hi⟩ hw
theorem At.leave {fn : Func} {fr l' : List HP} {R : Value → List HP → Prop} {f : FuncId} {first cap : Array Value} {pre : List HP} {Rd : List HP → Prop} {u' : FrameMode} {e : Exit} (he : e = .ret ∨ e = .normal) (hu : settle u' = .returning) (hb : hasBody P f = true) (hE : G E)
    (hs : DoesD P G f (first ++ cap) .returning u' pre Rd) (hl : Ent l (pre ++ l')) (h : ∀ m, Rd m → At E n [] ts (m ++ l') (Ends P fn E fr R .ret)) : At E n [{ target := .fn (.func f) cap, args := first }] ts l (EndsF P fn E fr R e) := fun a w ft hw => by
  have key : Leaves P fn a.tmps (fun e w' => ∃ v m, e = .returned v ∧ R v m ∧ Holds E w' (m ++ fr)) a.defers .returning w := by
    rw [ft.defers]
    refine leaves_cons (f := f) (args := first ++ cap) (by simp) (by simp [invoke, run_callFunc hb]) ((hs E w l' hE (hw.ent hl)).mono ?_)
    rintro e u'' w' ⟨rfl, rfl, m, hm, hh⟩
    simp only [hu]
    obtain ⟨_, v, hr, hx⟩ := h m hm { a with defers := [] } w' ⟨ft.size, rfl, ft.get⟩ hh
    exact ⟨v, hr, hx⟩
  rcases he with rfl | rfl <;> exact key
theorem At.leaveX {fn : Func} {fr l' : List HP} {R : Value → List HP → Prop} {f : FuncId} {first cap : Array Value} {pre : List HP} {Rd : List HP → Prop} {u' : FrameMode} {c : List PanicEntry} (hu : settle u' = .returning) (hb : hasBody P f = true) (hE : G E)
    (hs : DoesD P G f (first ++ cap) (.panicking c) u' pre Rd) (hl : Ent l (pre ++ l')) (h : ∀ m, Rd m → At E n [] ts (m ++ l') (Ends P fn E fr R .ret)) : At E n [{ target := .fn (.func f) cap, args := first }] ts l (EndsF P fn E fr R (.panic c)) := fun a w ft hw => by
  show Leaves P fn a.tmps (fun e w' => ∃ v m, e = .returned v ∧ R v m ∧ Holds E w' (m ++ fr)) a.defers (.panicking c) w
  rw [ft.defers]
  refine leaves_cons (f := f) (args := first ++ cap) (by simp) (by simp [invoke, run_callFunc hb]) ((hs E w l' hE (hw.ent hl)).mono ?_)
  rintro e u'' w' ⟨rfl, rfl, m, hm, hh⟩
  simp only [hu]
  obtain ⟨_, v, hr, hx⟩ := h m hm { a with defers := [] } w' ⟨ft.size, rfl, ft.get⟩ hh
  exact ⟨v, hr, hx⟩
theorem DoesD.recover {f : FuncId} {fn : Func} {c : Code} {id d : Nat} {args : List Value} {u u' : FrameMode} {v : Value} {pre : List HP} {R : List HP → Prop} (hf : P.funcs[f]? = some fn)
    (hb : fn.body = some (.seq (.region id #[⟨some d, .call { callee := .builtin .recover, args := #[], argTypes := #[] }, ty, pos, af, none⟩] false) c)) (hn : Nat.ble args.length fn.ntmps = true) (hd : Nat.blt d fn.ntmps = true)
    (hu : (u = .returning ∧ u' = .returning ∧ v = .nilIface) ∨ ∃ older, u = .panicking ({ v := v, recovered := false } :: older) ∧ u' = .panicking ({ v := v, recovered := true } :: older))
    (h : ∀ E fr, G E → At E fn.ntmps [] ((d, v) :: argSlots 0 args) (pre ++ fr) (c.wp P (Ends P fn E fr fun v m => v = .tuple #[] ∧ R m))) : DoesD P G f args.toArray u u' pre R := by
  intro E w fr hE hw
  refine callsD_of_wpS hf hb fun c₀ cs hc => ?_
  have hfit : Fits fn.ntmps [] (argSlots 0 args) { tmps := args.toArray ++ Array.replicate (fn.ntmps - args.toArray.size) undef, defers := [] } := by
    refine ⟨?_, rfl, ?_⟩
    · have := Nat.le_of_ble_eq_true hn
      simp; omega
    · intro i v hi
      obtain ⟨_, h2⟩ := argSlots_get args 0 i v hi
      rw [Nat.sub_zero] at h2
      have hlt : i < args.length := (List.getElem?_eq_some_iff.1 h2).1
      simp [Array.getElem?_append, hlt, (List.getElem?_eq_some_iff.1 h2).2]
  have hk := h E fr hE _ w (hfit.put d (Nat.le_of_ble_eq_true hd) v) hw
  have hrest : ∀ c₁ : Frame, c₁ = { c₀ with mode := u' } → c.wpS P (bodyPostS P fn c₀ cs fun e u'' w' => e = .returned (.tuple #[]) ∧ u'' = u' ∧ ∃ m, R m ∧ Holds E w' (m ++ fr)) (({ tmps := args.toArray ++ Array.replicate (fn.ntmps - args.toArray.size) undef, defers := [] } : Act).put (some d) v) (c₁ :: cs) w := by
    rintro c₁ rfl
    refine wpS_of_wp (Code.wp_mono ?_ hk)
    intro e a w' hq
    cases e with
    | normal => exact let ⟨h1, v, h2, v', m, h3, ⟨h4, h5⟩, h6⟩ := hq; ⟨h1, u', rfl, v, h2, by rw [h3, h4], rfl, m, h5, h6⟩
    | ret => exact let ⟨h1, v, h2, v', m, h3, ⟨h4, h5⟩, h6⟩ := hq; ⟨h1, u', rfl, v, h2, by rw [h3, h4], rfl, m, h5, h6⟩
    | panic c => exact let ⟨_, v', m, h3, _⟩ := hq; by cases h3
    | exit _ => exact hq.elim
    | goto _ => exact hq.elim
    | outgrown => exact let ⟨v', m, h3, _⟩ := hq; by cases h3
  apply wpS_seq
  apply wpS_region
  have hex : ∀ (a : Act) (w : World), (execOp a.eval ⟨some d, .call { callee := .builtin .recover, args := #[], argTypes := #[] }, ty, pos, af, none⟩).run P w = .ok .recover w := fun a w => by
    simp [execOp, resolve, invoke, builtin]
  simp only [List.size_toArray, List.length_cons, List.length_nil, Nat.zero_add, List.range_one, wpOpsS, List.getElem?_toArray, List.getElem?_cons_zero, Region.wanted, if_true, hex]
  rcases hu with ⟨rfl, rfl, rfl⟩ | ⟨older, rfl, rfl⟩
  · have hrec : recoverD (c₀ :: cs) = none := by simp [recoverD, hc]
    simp only [hrec, Exit.thenS]
    exact hrest c₀ (by cases c₀; simp_all)
  · have hrec : recoverD (c₀ :: cs) = some (v, { c₀ with mode := .panicking ({ v := v, recovered := true } :: older) } :: cs) := by simp [recoverD, hc]
    simp only [hrec, Exit.thenS]
    exact hrest _ rfl
end
end Go.SL

namespace Go.SL
open Go Go.RowKit
section
variable {P : Program} {E : Env} {n : Nat} {D : List Deferred} {ts : List (Nat × Value)} {l : List HP} {ops : Array Oper} {Q : Exit → Act → World → Prop} {rest : List Oper} {i : Nat} {ty : TypeId} {pos : String} {af : Array Edge}
def gv (k : Bool) (v : Value) : Value := if k then v else undef
theorem L.bool {op : Op} {d : Bool} {φ : World → Prop} (hi : Nat.blt i n = true) (hev : Ev P ts op (.bool d) φ) (hφ : ∀ w, Holds E w l → φ w) (h : ∀ c : Bool, c = d → At E n D ((i, .bool c) :: ts) l (wpList P ops Q rest)) :
    At E n D ts l (wpList P ops Q (⟨some i, op, ty, pos, af, none⟩ :: rest)) := L.val hi hev hφ (h d rfl)
def AtT (E : Env) (n : Nat) (D : List Deferred) (T : Bool → List (Nat × Value)) (c : Bool) (l : List HP) (K : Act → World → Prop) : Prop := At E n D (T c) l K
theorem L.abs {T : Bool → List (Nat × Value)} {K : Act → World → Prop} (c : Bool) (hT : ts = T c) (h : AtT E n D T c l K) : At E n D ts l K := by
  subst hT
  exact h
theorem L.g {T : Bool → List (Nat × Value)} {c : Bool} {op : Op} {v : Value} {φ : World → Prop} {j t : Nat} {b : Bool} (hi : Nat.blt i n = true) (ht : (ops[j]?).bind (·.dst) = some t) (hv : ∀ c, look t (T c) = some (.bool c)) (hev : Ev P (T b) op v φ) (hφ : ∀ w, Holds E w l → φ w)
    (h : At E n D ((i, gv (c == b) v) :: T c) l (wpList P ops Q rest)) : AtT E n D T c l (wpList P ops Q (⟨some i, op, ty, pos, af, some (j, b)⟩ :: rest)) := by
  unfold AtT
  by_cases hc : c = b
  · subst hc
    refine L.on rfl ht (hv c) (L.vala hi hev hφ ?_)
    have : gv (c == c) v = v := by simp [gv]
    rwa [this] at h
  · have hcb : c = !b := by cases c <;> cases b <;> simp_all
    refine L.off rfl hi rfl ht (hv c) hcb ?_
    have : gv (c == b) v = undef := by simp [gv, hc]
    rwa [this] at h
theorem o_extSet1 {g : Option (Nat × Bool)} {f : FuncId} {xs : List Operand} {at_ : Array TypeId} {args : List Value} {b j : Nat} {tb : TypeId} {cs : Array Value} {u v : Value} {r : List HP} {φ : World → Prop} {K : Act → World → Prop} [hh : Has b l (.cells cs tb) r] (hi : Nat.blt i n = true) (hx : evs ts xs = some args) (hφ : ∀ w, Holds E w l → φ w)
    (hr : ∀ w, φ w → w.heap[b]? = some (.cells cs tb) → (callFunc f args.toArray).run P w = .ok (.value u) (w.setCell ⟨b, j, none⟩ v))
    (h : At E n D ((i, u) :: ts) (blk b tb (cs.setIfInBounds j v) :: r) K) : At E n D ts l (fun a w => (Oper.mk (some i) (.call { callee := .value (.func f), args := xs.toArray, argTypes := at_ }) ty pos af g).wp P a w K Q) := fun a w ft hw => by
  have h1 := evs_eval ft.knows hx
  have : (execOp a.eval (Oper.mk (some i) (.call { callee := .value (.func f), args := xs.toArray, argTypes := at_ }) ty pos af g)).run P w = .ok (.value u) (w.setCell ⟨b, j, none⟩ v) := by
    simp [execOp, resolve, Deferred.ofValue, Act.eval, invoke, h1, hr w (hφ w hw) (hw.ob hh.sel).1]
  show (Oper.mk (some i) (.call { callee := .value (.func f), args := xs.toArray, argTypes := at_ }) ty pos af g).wp P a w K Q
  unfold Oper.wp
  rw [this]
  exact h _ _ (ft.put i (Nat.le_of_ble_eq_true hi) u) (hw.store hh.sel)
theorem ev_pickAnd {c x y : Operand} {b d : Bool} (hc : ev ts c = some (.bool b)) (hx : ev ts x = some (gv (b == true) (.bool d))) (hy : ev ts y = some (.bool false)) : Ev P ts (.pick c x y) (.bool (b && d)) Any := by
  have := ev_pick (P := P) hc hx hy
  cases b <;> exact this
theorem ev_pickOr {c x y : Operand} {b d : Bool} (hc : ev ts c = some (.bool b)) (hx : ev ts x = some (.bool true)) (hy : ev ts y = some (gv (b == false) (.bool d))) : Ev P ts (.pick c x y) (.bool (b || d)) Any := by
  have := ev_pick (P := P) hc hx hy
  cases b <;> exact this
end
end Go.SL
