/- The logic's rules for lists of operations, for code, for memory that is made and written, for calls and returns. -/
import Derived.Test.YtmeegfamopaljaaGreatDoorFiF
namespace Go.SL
open Go Go.RowKit
class Has (b : Nat) (l : List HP) (o : outParam Obj) (r : outParam (List HP)) : Prop where
  sel : Sel (ob b o) l r
instance Has.head {b : Nat} {o : Obj} {l : List HP} : Has b (ob b o :: l) o l := ⟨.head⟩
instance (priority := low) Has.tail {b : Nat} {o : Obj} {l r : List HP} {p : HP} [h : Has b l o r] : Has b (p :: l) o (p :: r) := ⟨.tail h.sel⟩
section
variable {P : Program} {E : Env} {n : Nat} {D : List Deferred} {ts : List (Nat × Value)} {l : List HP} {ops : Array Oper} {Q : Exit → Act → World → Prop} {rest : List Oper}
theorem At.mono {K K' : Act → World → Prop} (h : At E n D ts l K) (hk : ∀ a w, K a w → K' a w) : At E n D ts l K' := fun a w f s => hk a w (h a w f s)
theorem At.ent {l' : List HP} {K : Act → World → Prop} (e : Ent l l') (h : At E n D ts l' K) : At E n D ts l K := fun a w f s => h a w f (s.ent e)
def Sub : List (Nat × Value) → List (Nat × Value) → Prop
  | [], _ => True
  | (i, v) :: t, ts => look i ts = some v ∧ Sub t ts
theorem Sub.look : ∀ {t ts : List (Nat × Value)}, Sub t ts → ∀ {i : Nat} {v : Value}, SL.look i t = some v → SL.look i ts = some v
  | [], _, _, _, _, h => by simp [SL.look] at h
  | (j, u) :: t, ts, ⟨h0, h1⟩, i, v, h => by
    simp only [SL.look] at h
    cases hb : Nat.beq i j with
    | true =>
      rw [hb] at h
      simp at h
      rw [Nat.eq_of_beq_eq_true hb, ← h]; exact h0
    | false => rw [hb] at h; exact h1.look h
theorem Fits.sub {t : List (Nat × Value)} {a : Act} (h : Fits n D ts a) (s : Sub t ts) : Fits n D t a := ⟨h.size, h.defers, fun i v hi => h.get i v (s.look hi)⟩
theorem At.sub {t : List (Nat × Value)} {K : Act → World → Prop} (s : Sub t ts) (h : At E n D t l K) : At E n D ts l K := fun a w f hw => h a w (f.sub s) hw
theorem At.ex {α : Sort _} {g : α → HP} {r : List HP} {K : Act → World → Prop} (s : Sel (HP.ex g) l r) (h : ∀ x, At E n D ts (g x :: r) K) : At E n D ts l K := fun a w f hw => by
  have h1 := hw.sel s
  obtain ⟨F1, F2, h2, h3, hd, ⟨x, hx⟩, hl⟩ := h1.star
  exact h x a w f ⟨hw.is, F1, F2, h2, h3, hd, hx, hl⟩
theorem At.pure {p : Prop} {r : List HP} {K : Act → World → Prop} (s : Sel (HP.pure p) l r) (h : p → At E n D ts r K) : At E n D ts l K := fun a w f hw => by
  have h1 := hw.sel s
  obtain ⟨F1, F2, h2, h3, hd, hx, hl⟩ := h1.star
  exact h hx a w f ⟨hw.is, hl.mono h3⟩
theorem At.all {m : List HP} {r : List HP} {K : Act → World → Prop} (s : Sel (HP.all m) l r) (h : At E n D ts (m ++ r) K) : At E n D ts l K := fun a w f hw => h a w f ((hw.sel s).ent Ent.unall)
theorem At.fact {p : Prop} {K : Act → World → Prop} (hp : ∀ w, Holds E w l → p) (h : p → At E n D ts l K) : At E n D ts l K := fun a w f hw => h (hp w hw) a w f hw
theorem L.nil (h : At E n D ts l (Q .normal)) : At E n D ts l (wpList P ops Q []) := h
theorem L.op {o : Oper} (hg : o.guard = none) (h : At E n D ts l (fun a w => o.wp P a w (wpList P ops Q rest) Q)) : At E n D ts l (wpList P ops Q (o :: rest)) := fun a w f hw => by
  unfold wpList
  rw [if_pos (by simp [Region.wanted, hg])]
  exact .inl (h a w f hw)
theorem Ev.wp {op : Op} {v : Value} {φ : World → Prop} (h : Ev P ts op v φ) {a : Act} {w : World} {d : Option Tmp} {ty : TypeId} {pos : String} {af : Array Edge} {g : Option (Nat × Bool)} {K : Act → World → Prop} (k : Knows ts a) (hφ : φ w) (hk : K (a.put d v) w) :
    (Oper.mk d op ty pos af g).wp P a w K Q := by
  unfold Oper.wp
  rw [h a w d ty pos af g k hφ]
  exact hk
theorem L.val {op : Op} {v : Value} {φ : World → Prop} {i : Nat} {ty : TypeId} {pos : String} {af : Array Edge} (hi : Nat.blt i n = true) (hev : Ev P ts op v φ) (hφ : ∀ w, Holds E w l → φ w) (h : At E n D ((i, v) :: ts) l (wpList P ops Q rest)) :
    At E n D ts l (wpList P ops Q (⟨some i, op, ty, pos, af, none⟩ :: rest)) :=
  L.op rfl fun _a w f hw => hev.wp f.knows (hφ w hw) (h _ w (f.put i (Nat.le_of_ble_eq_true hi) v) hw)
theorem L.pure {op : Op} {v : Value} {i : Nat} {ty : TypeId} {pos : String} {af : Array Edge} (hi : Nat.blt i n = true) (hev : Ev P ts op v Any) (h : At E n D ((i, v) :: ts) l (wpList P ops Q rest)) :
    At E n D ts l (wpList P ops Q (⟨some i, op, ty, pos, af, none⟩ :: rest)) := L.val hi hev (fun _ _ => trivial) h
theorem L.on {o : Oper} {j t : Nat} {b : Bool} (hg : o.guard = some (j, b)) (ht : (ops[j]?).bind (·.dst) = some t) (hv : look t ts = some (.bool b)) (h : At E n D ts l (fun a w => o.wp P a w (wpList P ops Q rest) Q)) : At E n D ts l (wpList P ops Q (o :: rest)) := fun a w f hw => by
  unfold wpList
  rw [if_pos (by simp [Region.wanted, hg, yielded, ht, f.get t _ hv])]
  exact .inl (h a w f hw)
theorem L.off {o : Oper} {j t i : Nat} {b c : Bool} (hd : o.dst = some i) (hi : Nat.blt i n = true) (hg : o.guard = some (j, b)) (ht : (ops[j]?).bind (·.dst) = some t) (hv : look t ts = some (.bool c)) (hb : c = !b) (h : At E n D ((i, undef) :: ts) l (wpList P ops Q rest)) : At E n D ts l (wpList P ops Q (o :: rest)) := fun a w f hw => by
  unfold wpList
  rw [if_neg (by subst hb; cases b <;> simp [Region.wanted, hg, yielded, ht, f.get t _ hv]), hd]
  exact h _ w (f.put i (Nat.le_of_ble_eq_true hi) _) hw
theorem L.vala {op : Op} {v : Value} {φ : World → Prop} {i : Nat} {ty : TypeId} {pos : String} {af : Array Edge} {g : Option (Nat × Bool)} {K : Act → World → Prop} (hi : Nat.blt i n = true) (hev : Ev P ts op v φ) (hφ : ∀ w, Holds E w l → φ w) (h : At E n D ((i, v) :: ts) l K) :
    At E n D ts l (fun a w => (Oper.mk (some i) op ty pos af g).wp P a w K Q) := fun _a w f hw => hev.wp f.knows (hφ w hw) (h _ w (f.put i (Nat.le_of_ble_eq_true hi) v) hw)
theorem cellIs {b i : Nat} {t : TypeId} {cs : Array Value} {fz : Nat × Nat} {r : List HP} {v : Value} [h : Has b l (.cells cs t fz) r] (hv : cs[i]? = some v) : ∀ w, Holds E w l → CellIs ⟨b, i, none⟩ v w := fun w hw => by
  have := (hw.ob h.sel).1
  simp [CellIs, World.cell?, this, hv]
theorem rowIs {b i : Nat} {t : TypeId} {cs : Array Value} {fz : Nat × Nat} {r : List HP} {vs : List Value} [h : Has b l (.cells cs t fz) r] (hv : ∀ j v, vs[j]? = some v → cs[i + j]? = some v) : ∀ w, Holds E w l → RowIs b i vs w := fun w hw j v hj => by
  have := (hw.ob h.sel).1
  simp [World.cell?, this, hv j v hj]
theorem wp_new {o : Oper} {i : Nat} {t : TypeId} {cs : Array Value} {K : Act → World → Prop} {a : Act} {w : World} (hd : o.dst = some i) (hi : Nat.blt i n = true)
    (hr : (execOp a.eval o).run P w = .ok (.value (.pointer (some ⟨w.heap.size, 0, none⟩))) (w.alloc (.cells cs t)))
    (h : ∀ b, At E n D ((i, .pointer (some ⟨b, 0, none⟩)) :: ts) (blk b t cs :: l) K) (f : Fits n D ts a) (hw : Holds E w l) : o.wp P a w K Q := by
  unfold Oper.wp
  rw [hr]
  show K (a.put o.dst _) _
  rw [hd]
  exact h _ _ _ (f.put i (Nat.le_of_ble_eq_true hi) _) (hw.alloc _)
def zeroIs (P : Program) (t : TypeId) (z : Value) : Prop := (P.info? t).bind (·.zero) = some z
theorem run_zeroIs {t : TypeId} {z : Value} (h : zeroIs P t z) (w : World) : (zeroValue t).run P w = .ok z w := by
  unfold zeroIs at h
  cases hi : P.info? t with
  | none => simp [hi] at h
  | some i => simp [hi] at h; simp [zeroValue, typeInfo, hi, h]
theorem o_alloc {i : Nat} {t ty : TypeId} {pos : String} {af : Array Edge} {g : Option (Nat × Bool)} {z : Value} {K : Act → World → Prop} (hi : Nat.blt i n = true) (hz : zeroIs P t z)
    (h : ∀ b, At E n D ((i, .pointer (some ⟨b, 0, none⟩)) :: ts) (blk b t z.cells :: l) K) : At E n D ts l (fun a w => (Oper.mk (some i) (.alloc t) ty pos af g).wp P a w K Q) := fun a w f hw =>
  wp_new rfl hi (by simp [execOp, Instr.alloc, run_zeroIs hz, newVar, newRow]) h f hw
theorem o_box {i : Nat} {t ty : TypeId} {pos : String} {af : Array Edge} {g : Option (Nat × Bool)} {x : Operand} {v : Value} {K : Act → World → Prop} (hi : Nat.blt i n = true) (hx : ev ts x = some v)
    (h : ∀ b, At E n D ((i, .pointer (some ⟨b, 0, none⟩)) :: ts) (blk b t v.cells :: l) K) : At E n D ts l (fun a w => (Oper.mk (some i) (.box t x) ty pos af g).wp P a w K Q) := fun a w f hw =>
  wp_new rfl hi (by simp [execOp, Instr.box, f.eval hx, newVar, newRow]) h f hw
theorem Holds.store {E : Env} {w : World} {l r : List HP} {b i : Nat} {t : TypeId} {cs : Array Value} {v : Value} (h : Holds E w l) (s : Sel (blk b t cs) l r) : Holds E (w.setCell ⟨b, i, none⟩ v) (blk b t (cs.setIfInBounds i v) :: r) := by
  have h1 := h.sel s
  have hb := (h.ob s).1
  refine Holds.set (w := w) h1 rfl rfl rfl (by simp [World.setCell]) ?_ fun k hk => Below.heap_setCell _ _ _ _ (by simpa using hk)
  simp [World.setCell, hb, Array.getElem?_modify]
theorem run_store1 {w : World} {b i : Nat} {t : TypeId} {cs : Array Value} {v : Value} (hb : w.heap[b]? = some (.cells cs t)) (hi : i < cs.size) (hv : v.oneCell' = true) : (store ⟨b, i, none⟩ v).run P w = .ok () (w.setCell ⟨b, i, none⟩ v) := by
  rw [run_store P w _ _ _ hv]
  simp [World.cell?, World.frozen?, hb, hi]
theorem cells_one {v : Value} (h : v.oneCell' = true) : v.cells = #[v] := by cases v <;> simp_all [Value.oneCell', Value.cells]
theorem o_store1 {t ty : TypeId} {d : Option Tmp} {pos : String} {af : Array Edge} {g : Option (Nat × Bool)} {x y : Operand} {b i : Nat} {tb : TypeId} {cs : Array Value} {r : List HP} {v : Value} {K : Act → World → Prop} [hh : Has b l (.cells cs tb) r]
    (hd : d = none) (hz : sizeIs P t 1) (hx : ev ts x = some (.pointer (some ⟨b, i, none⟩))) (hy : ev ts y = some v) (hv : v.oneCell' = true) (hi : i < cs.size)
    (h : At E n D ts (blk b tb (cs.setIfInBounds i v) :: r) K) : At E n D ts l (fun a w => (Oper.mk d (.store t x y) ty pos af g).wp P a w K Q) := fun a w f hw => by
  subst hd
  have hb := (hw.ob hh.sel).1
  have : (execOp a.eval ⟨none, .store t x y, ty, pos, af, g⟩).run P w = .ok .skip (w.setCell ⟨b, i, none⟩ v) := by
    simp [execOp, f.eval hx, f.eval hy, Instr.storeAt, Instr.sureAddr, storeVar, run_sizeIs hz, cells_one hv, storeCells, add_plain, run_store1 hb hi hv]
  unfold Oper.wp
  rw [this]
  exact h _ _ f (hw.store hh.sel)
def setRow (cs : Array Value) (i : Nat) : List Value → Array Value
  | [] => cs
  | v :: vs => setRow (cs.setIfInBounds i v) (i + 1) vs
theorem setRow_size : ∀ (vs : List Value) (cs : Array Value) (i : Nat), (setRow cs i vs).size = cs.size
  | [], _, _ => rfl
  | v :: vs, cs, i => by simp [setRow, setRow_size vs]
theorem run_storeCells {b : Nat} {t : TypeId} : ∀ (vs : List Value) (w : World) (cs : Array Value) (o i : Nat), w.heap[b]? = some (.cells cs t) → o + i + vs.length ≤ cs.size → (∀ v ∈ vs, v.oneCell' = true) →
    ∃ w', (storeCells ⟨b, o, none⟩ vs i).run P w = .ok () w' ∧ w'.heap[b]? = some (.cells (setRow cs (o + i) vs) t) ∧ w'.os = w.os ∧ w'.tape = w.tape ∧ w'.output = w.output ∧ w'.heap.size = w.heap.size ∧ (∀ k, k ≠ b → w'.heap[k]? = w.heap[k]?)
  | [], w, cs, o, i, hb, _, _ => ⟨w, by simp [storeCells], by simpa [setRow] using hb, rfl, rfl, rfl, rfl, fun _ _ => rfl⟩
  | v :: vs, w, cs, o, i, hb, hl, hv => by
    simp only [List.length_cons] at hl
    have h1 := run_store1 (P := P) (i := o + i) hb (by omega) (hv v (by simp))
    have hb' : (w.setCell ⟨b, o + i, none⟩ v).heap[b]? = some (.cells (cs.setIfInBounds (o + i) v) t) := by simp [World.setCell, hb, Array.getElem?_modify]
    obtain ⟨w', hr, h2, h3, h4, h5, h6, h7⟩ := run_storeCells vs _ _ o (i + 1) hb' (by simp; omega) (fun u hu => hv u (by simp [hu]))
    refine ⟨w', ?_, ?_, h3, h4, h5, by rw [h6]; simp [World.setCell], fun k hk => (h7 k hk).trans (Below.heap_setCell _ _ _ _ (by simpa using hk))⟩
    · simp [storeCells, add_plain, h1, hr]
    · rw [h2]; simp [setRow, Nat.add_assoc]
theorem o_storeN {t ty : TypeId} {d : Option Tmp} {pos : String} {af : Array Edge} {g : Option (Nat × Bool)} {x y : Operand} {b i m : Nat} {tb : TypeId} {cs : Array Value} {r : List HP} {vs : List Value} {K : Act → World → Prop} [hh : Has b l (.cells cs tb) r]
    (hd : d = none) (hz : sizeIs P t m) (hx : ev ts x = some (.pointer (some ⟨b, i, none⟩))) (hy : ev ts y = some (.agg vs.toArray)) (hm : vs.length = m) (hv : ∀ v ∈ vs, v.oneCell' = true) (hi : i + vs.length ≤ cs.size)
    (h : At E n D ts (blk b tb (setRow cs i vs) :: r) K) : At E n D ts l (fun a w => (Oper.mk d (.store t x y) ty pos af g).wp P a w K Q) := fun a w f hw => by
  subst hd
  subst hm
  have h0 := hw.sel hh.sel
  have hb := (hw.ob hh.sel).1
  obtain ⟨w', hr, h2, h3, h4, h5, h6, h7⟩ := run_storeCells (P := P) vs w cs i 0 hb (by simpa using hi) hv
  have : (execOp a.eval ⟨none, .store t x y, ty, pos, af, g⟩).run P w = .ok .skip w' := by
    simp [execOp, f.eval hx, f.eval hy, Instr.storeAt, Instr.sureAddr, storeVar, run_sizeIs hz, Value.cells, hr]
  unfold Oper.wp
  rw [this]
  exact h _ _ f (Holds.set h0 h3 h4 h5 h6 (by simpa using h2) h7)
theorem At.seq {x y : Code} (h : At E n D ts l (x.wp P (Exit.then (y.wp P Q) Q))) : At E n D ts l ((Code.seq x y).wp P Q) := fun a w f hw => wp_seq (h a w f hw)
theorem At.skip (h : At E n D ts l (Q .normal)) : At E n D ts l (Code.skip.wp P Q) := fun a w f hw => wp_skip (h a w f hw)
theorem At.exit {id : Nat} (h : At E n D ts l (Q (.exit id))) : At E n D ts l ((Code.exit id).wp P Q) := fun a w f hw => wp_exit (h a w f hw)
theorem At.ret (h : At E n D ts l (Q .ret)) : At E n D ts l (Code.ret.wp P Q) := fun a w f hw => wp_ret (h a w f hw)
theorem At.label {k : Nat} (h : At E n D ts l (Q .normal)) : At E n D ts l ((Code.label k).wp P Q) := fun a w f hw => wp_label (h a w f hw)
theorem At.block {id : Nat} {c : Code} (h : At E n D ts l (c.wp P (Exit.inBlock id Q))) : At E n D ts l ((Code.block id c).wp P Q) := fun a w f hw => wp_block (h a w f hw)
theorem At.region {id : Nat} {os : List Oper} (h : At E n D ts l (wpList P os.toArray Q os)) : At E n D ts l ((Code.region id os.toArray false).wp P Q) := fun a w f hw => wp_region_lit (h a w f hw)
theorem At.cond {c : Operand} {x y : Code} {b : Bool} (hc : ev ts c = some (.bool b)) (ht : b = true → At E n D ts l (x.wp P Q)) (hf : b = false → At E n D ts l (y.wp P Q)) : At E n D ts l ((Code.cond c x y).wp P Q) := fun a w f hw =>
  wp_cond_split (f.eval hc) (fun h => ht h a w f hw) (fun h => hf h a w f hw)
theorem At.condD {c : Operand} {x y : Code} {p : Prop} [Decidable p] (hc : ev ts c = some (.bool (decide p))) (ht : p → At E n D ts l (x.wp P Q)) (hf : ¬p → At E n D ts l (y.wp P Q)) : At E n D ts l ((Code.cond c x y).wp P Q) :=
  At.cond hc (fun h => ht (of_decide_eq_true h)) (fun h => hf (of_decide_eq_false h))
theorem At.condT {c : Operand} {x y : Code} (hc : ev ts c = some (.bool true)) (h : At E n D ts l (x.wp P Q)) : At E n D ts l ((Code.cond c x y).wp P Q) := fun a w f hw => wp_cond_true (f.eval hc) (h a w f hw)
theorem At.condF {c : Operand} {x y : Code} (hc : ev ts c = some (.bool false)) (h : At E n D ts l (y.wp P Q)) : At E n D ts l ((Code.cond c x y).wp P Q) := fun a w f hw => wp_cond_false (f.eval hc) (h a w f hw)
theorem least_of {p : Nat → Prop} (h : ∃ m, p m) : ∃ m, p m ∧ ∀ k, p k → m ≤ k := by
  obtain ⟨m, hm⟩ := h
  induction m using Nat.strongRecOn with
  | _ m ih =>
    by_cases hlt : ∃ k, k < m ∧ p k
    · obtain ⟨k, hk, hp⟩ := hlt
      exact ih k hk hp
    · exact ⟨m, hm, fun k hk => Nat.le_of_not_lt fun hl => hlt ⟨k, hl, hk⟩⟩
def Round {X : Type} (n : Nat) (D : List Deferred) (E : Env) (T : X → List (Nat × Value)) (L : X → List HP) (I : X → Prop) (μ : X → Nat) (m : Nat) (Q : Exit → Act → World → Prop) : Exit → Act → World → Prop
  | .normal, a, w => ∃ x, I x ∧ μ x < m ∧ Fits n D (T x) a ∧ Holds E w (L x)
  | e, a, w => Q e a w
theorem At.loop {X : Type} {c : Code} (T : X → List (Nat × Value)) (L : X → List HP) (I : X → Prop) (μ : X → Nat) (x0 : X) (h0 : I x0) (hs : Sub (T x0) ts) (hl : Ent l (L x0))
    (h : ∀ x, I x → At E n D (T x) (L x) (c.wp P (Round n D E T L I μ (μ x) Q))) : At E n D ts l ((Code.loop c).wp P Q) := fun a w f hw => by
  classical
  let J : Act → World → Nat → Prop := fun a w m => ∃ x, I x ∧ μ x = m ∧ Fits n D (T x) a ∧ Holds E w (L x)
  have key : ∀ m a w, J a w m → (Code.loop c).wp P Q a w := by
    intro m a w hJ
    refine wp_loop (fun a w => ∃ m, J a w m) (fun a w => if h : ∃ m, J a w m then Classical.choose (least_of h) else 0) ⟨m, hJ⟩ ?_
    intro a w hex
    obtain ⟨hm, hmin⟩ := Classical.choose_spec (least_of hex)
    obtain ⟨x, hI, hμ, hf, hH⟩ := hm
    refine Code.wp_mono ?_ (h x hI a w hf hH)
    intro e a' w' hq
    cases e with
    | normal =>
      obtain ⟨x', hI', hlt, hf', hH'⟩ := hq
      have hex' : ∃ m, J a' w' m := ⟨μ x', x', hI', rfl, hf', hH'⟩
      refine ⟨hex', ?_⟩
      rw [dif_pos hex', dif_pos hex]
      refine Nat.lt_of_le_of_lt ((Classical.choose_spec (least_of hex')).2 _ ⟨x', hI', rfl, hf', hH'⟩) ?_
      rw [← hμ]; exact hlt
    | _ => exact hq
  exact key (μ x0) a w ⟨x0, h0, rfl, f.sub hs, hw.ent hl⟩
theorem At.round {X : Type} {T : X → List (Nat × Value)} {L : X → List HP} {I : X → Prop} {μ : X → Nat} {m : Nat} (x : X) (hI : I x) (hm : μ x < m) (hs : Sub (T x) ts) (hl : Ent l (L x)) : At E n D ts l (Round n D E T L I μ m Q .normal) :=
  fun _ _ f hw => ⟨x, hI, hm, f.sub hs, hw.ent hl⟩
theorem At.then {K : Act → World → Prop} (h : At E n D ts l K) : At E n D ts l (Exit.then K Q .normal) := h
theorem At.thenExit {K : Act → World → Prop} {id : Nat} (h : At E n D ts l (Q (.exit id))) : At E n D ts l (Exit.then K Q (.exit id)) := h
theorem At.thenRet {K : Act → World → Prop} (h : At E n D ts l (Q .ret)) : At E n D ts l (Exit.then K Q .ret) := h
theorem At.inBlock {id : Nat} (h : At E n D ts l (Q .normal)) : At E n D ts l (Exit.inBlock id Q .normal) := h
theorem At.inBlockRet {id : Nat} (h : At E n D ts l (Q .ret)) : At E n D ts l (Exit.inBlock id Q .ret) := h
theorem At.inBlockHit {id : Nat} (h : At E n D ts l (Q .normal)) : At E n D ts l (Exit.inBlock id Q (.exit id)) := fun a w f hw => by simpa [Exit.inBlock] using h a w f hw
theorem At.inBlockMiss {id k : Nat} (hne : Nat.beq k id = false) (h : At E n D ts l (Q (.exit k))) : At E n D ts l (Exit.inBlock id Q (.exit k)) := fun a w f hw => by
  have : k ≠ id := fun e => by subst e; simp at hne
  simpa [Exit.inBlock, this] using h a w f hw
theorem At.roundExit {X : Type} {T : X → List (Nat × Value)} {L : X → List HP} {I : X → Prop} {μ : X → Nat} {m id : Nat} (h : At E n D ts l (Q (.exit id))) : At E n D ts l (Round n D E T L I μ m Q (.exit id)) := h
theorem At.roundRet {X : Type} {T : X → List (Nat × Value)} {L : X → List HP} {I : X → Prop} {μ : X → Nat} {m : Nat} (h : At E n D ts l (Q .ret)) : At E n D ts l (Round n D E T L I μ m Q .ret) := h
def Does (P : Program) (G : Env → Prop) (f : FuncId) (args : Array Value) (pre : List HP) (R : Value → List HP → Prop) : Prop :=
  ∀ E w fr, G E → Holds E w (pre ++ fr) → Calls P f args w fun e w' => ∃ v m, e = .returned v ∧ R v m ∧ Holds E w' (m ++ fr)
theorem Does.mono {G : Env → Prop} {f : FuncId} {args : Array Value} {pre : List HP} {R R' : Value → List HP → Prop} (h : Does P G f args pre R) (hR : ∀ v m, R v m → ∃ m', R' v m' ∧ Ent m m') : Does P G f args pre R' :=
  fun E w fr hE hw => (h E w fr hE hw).mono fun _ _ ⟨v, m, he, hr, hh⟩ => let ⟨m', hr', hm⟩ := hR v m hr; ⟨v, m', he, hr', hh.ent (hm.append fr)⟩
def Ends (P : Program) (fn : Func) (E : Env) (fr : List HP) (R : Value → List HP → Prop) : Exit → Act → World → Prop :=
  bodyPost P fn fun e w' => ∃ v m, e = .returned v ∧ R v m ∧ Holds E w' (m ++ fr)
def argSlots : Nat → List Value → List (Nat × Value)
  | _, [] => []
  | i, v :: vs => (i, v) :: argSlots (i + 1) vs
theorem argSlots_get : ∀ (vs : List Value) (i : Nat) (j : Nat) (v : Value), look j (argSlots i vs) = some v → i ≤ j ∧ vs[j - i]? = some v
  | [], _, _, _, h => by simp [argSlots, look] at h
  | u :: vs, i, j, v, h => by
    simp only [argSlots, look] at h
    cases hb : Nat.beq j i with
    | true =>
      rw [hb] at h
      simp at h
      have := Nat.eq_of_beq_eq_true hb
      subst this
      exact ⟨Nat.le_refl _, by simpa using h⟩
    | false =>
      rw [hb] at h
      obtain ⟨h1, h2⟩ := argSlots_get vs (i + 1) j v h
      refine ⟨by omega, ?_⟩
      rw [show j - i = (j - (i + 1)) + 1 by omega]
      simpa using h2
theorem Does.body {G : Env → Prop} {f : FuncId} {fn : Func} {c : Code} {args : List Value} {pre : List HP} {R : Value → List HP → Prop} (hf : P.funcs[f]? = some fn) (hb : fn.body = some c) (hn : Nat.ble args.length fn.ntmps = true)
    (h : ∀ E fr, G E → At E fn.ntmps [] (argSlots 0 args) (pre ++ fr) (c.wp P (Ends P fn E fr R))) : Does P G f args.toArray pre R := by
  intro E w fr hE hw
  refine calls_of_wp hf hb (h E fr hE _ _ ⟨?_, rfl, ?_⟩ hw)
  · have := Nat.le_of_ble_eq_true hn
    simp; omega
  · intro i v hi
    obtain ⟨_, h2⟩ := argSlots_get args 0 i v hi
    rw [Nat.sub_zero] at h2
    have hlt : i < args.length := (List.getElem?_eq_some_iff.1 h2).1
    simp [Array.getElem?_append, hlt, (List.getElem?_eq_some_iff.1 h2).2]
theorem At.end0 {fn : Func} {fr : List HP} {R : Value → List HP → Prop} (m : List HP) (hr : fn.results = #[]) (hR : R (.tuple #[]) m) (hm : Ent l (m ++ fr)) : At E n [] ts l (Ends P fn E fr R .normal) := fun _ _ f hw =>
  ⟨f.defers, _, results_none hr _ _ _, _, m, rfl, hR, hw.ent hm⟩
theorem At.ret0 {fn : Func} {fr : List HP} {R : Value → List HP → Prop} (m : List HP) (hr : fn.results = #[]) (hR : R (.tuple #[]) m) (hm : Ent l (m ++ fr)) : At E n [] ts l (Ends P fn E fr R .ret) := fun _ _ f hw =>
  ⟨f.defers, _, results_none hr _ _ _, _, m, rfl, hR, hw.ent hm⟩
theorem getD_of {a : Act} {i : Nat} {v : Value} (h : a.tmps[i]? = some v) : a.tmps.getD i undef = v := by simp [h]
theorem At.ret1 {fn : Func} {fr : List HP} {R : Value → List HP → Prop} {i : Nat} {v : Value} (m : List HP) (hr : fn.results = #[.tmp i]) (hv : look i ts = some v) (hR : R v m) (hm : Ent l (m ++ fr)) : At E n [] ts l (Ends P fn E fr R .ret) := fun _ _ f hw =>
  ⟨f.defers, v, by rw [results_tmp hr, getD_of (f.get i v hv)], _, m, rfl, hR, hw.ent hm⟩
theorem At.ret2 {fn : Func} {fr : List HP} {R : Value → List HP → Prop} {i j : Nat} {u v : Value} (m : List HP) (hr : fn.results = #[.tmp i, .tmp j]) (hu : look i ts = some u) (hv : look j ts = some v) (hR : R (.tuple #[u, v]) m) (hm : Ent l (m ++ fr)) : At E n [] ts l (Ends P fn E fr R .ret) := fun _ _ f hw =>
  ⟨f.defers, _, by rw [results_tmp2 hr, getD_of (f.get i u hu), getD_of (f.get j v hv)], _, m, rfl, hR, hw.ent hm⟩
theorem results_tmp3 {fn : Func} {i j k : Tmp} (h : fn.results = #[.tmp i, .tmp j, .tmp k]) (tmps : Array Value) (P : Program) (w : World) :
    (results fn tmps).run P w = .ok (.tuple #[tmps.getD i undef, tmps.getD j undef, tmps.getD k undef]) w := by
  simp [results, h]
theorem At.ret3 {fn : Func} {fr : List HP} {R : Value → List HP → Prop} {i j k : Nat} {u v x : Value} (m : List HP) (hr : fn.results = #[.tmp i, .tmp j, .tmp k]) (hu : look i ts = some u) (hv : look j ts = some v) (hx : look k ts = some x) (hR : R (.tuple #[u, v, x]) m) (hm : Ent l (m ++ fr)) : At E n [] ts l (Ends P fn E fr R .ret) := fun _ _ f hw =>
  ⟨f.defers, _, by rw [results_tmp3 hr, getD_of (f.get i u hu), getD_of (f.get j v hv), getD_of (f.get k x hx)], _, m, rfl, hR, hw.ent hm⟩
def evs (ts : List (Nat × Value)) : List Operand → Option (List Value)
  | [] => some []
  | x :: xs => match ev ts x, evs ts xs with
    | some v, some vs => some (v :: vs)
    | _, _ => none
theorem evs_eval {a : Act} (k : Knows ts a) : ∀ {xs : List Operand} {vs : List Value}, evs ts xs = some vs → xs.map a.eval = vs
  | [], vs, h => by simp [evs] at h; subst h; rfl
  | x :: xs, vs, h => by
    simp only [evs] at h
    split at h
    · rename_i v vs' h1 h2
      injection h with h
      subst h
      simp [k.eval h1, evs_eval k h2]
    · cases h
def hasBody (P : Program) (f : FuncId) : Bool := match P.funcs[f]? with
  | some fn => fn.body.isSome && !(fn.name == "runtime.NumGoroutine")
  | none => false
theorem run_callFunc {f : FuncId} (hb : hasBody P f = true) (args : Array Value) (w : World) : (callFunc f args).run P w = .ok (.enter f args) w := by
  unfold hasBody at hb
  split at hb
  · rename_i fn hf
    simp only [Bool.and_eq_true, Bool.not_eq_true'] at hb
    unfold callFunc
    simp only [Sem.run_bind, run_program, Result.andThen_ok, hf]
    rw [hb.2]
    simp only [Bool.false_eq_true, if_false]
    have : fn.body.isNone = false := by cases h : fn.body <;> simp_all
    rw [this]
    rfl
  · cases hb
theorem wp_enter {G : Env → Prop} {o : Oper} {f : FuncId} {args : Array Value} {pre fr : List HP} {R : Value → List HP → Prop} {K : Act → World → Prop} {a : Act} {w : World} (hr : (execOp a.eval o).run P w = .ok (.enter f args) w) (hE : G E) (hs : Does P G f args pre R) (hw : Holds E w (pre ++ fr))
    (hk : ∀ v m w', R v m → Holds E w' (m ++ fr) → K (a.put o.dst v) w') : o.wp P a w K Q := by
  unfold Oper.wp
  rw [hr]
  refine (hs E w fr hE hw).mono fun e w' ⟨v, m, he, hR, hm⟩ => ?_
  subst he
  exact hk v m w' hR hm
theorem o_call {G : Env → Prop} {i : Nat} {ty : TypeId} {pos : String} {af : Array Edge} {g : Option (Nat × Bool)} {f : FuncId} {xs : List Operand} {at_ : Array TypeId} {args : List Value} {pre fr : List HP} {R : Value → List HP → Prop} {K : Act → World → Prop} (hi : Nat.blt i n = true)
    (hb : hasBody P f = true) (hx : evs ts xs = some args) (hE : G E) (hs : Does P G f args.toArray pre R) (hl : Ent l (pre ++ fr)) (h : ∀ v m, R v m → At E n D ((i, v) :: ts) (m ++ fr) K) :
    At E n D ts l (fun a w => (Oper.mk (some i) (.call { callee := .value (.func f), args := xs.toArray, argTypes := at_ }) ty pos af g).wp P a w K Q) := fun a w ft hw => by
  refine wp_enter (f := f) (args := args.toArray) ?_ hE hs (hw.ent hl) fun v m w' hR hm => h v m hR _ w' (ft.put i (Nat.le_of_ble_eq_true hi) v) hm
  have := evs_eval ft.knows hx
  simp [execOp, resolve, Deferred.ofValue, Act.eval, invoke, this, run_callFunc hb]
theorem o_callV {G : Env → Prop} {i : Nat} {ty : TypeId} {pos : String} {af : Array Edge} {g : Option (Nat × Bool)} {x : Operand} {f : FuncId} {first captured : Array Value} {xs : List Operand} {at_ : Array TypeId} {args : List Value} {pre fr : List HP} {R : Value → List HP → Prop} {K : Act → World → Prop} (hi : Nat.blt i n = true)
    (hv : ev ts x = some (.func (.func f) first captured)) (hb : hasBody P f = true) (hx : evs ts xs = some args) (hE : G E) (hs : Does P G f (first ++ args.toArray ++ captured) pre R) (hl : Ent l (pre ++ fr)) (h : ∀ v m, R v m → At E n D ((i, v) :: ts) (m ++ fr) K) :
    At E n D ts l (fun a w => (Oper.mk (some i) (.call { callee := .value x, args := xs.toArray, argTypes := at_ }) ty pos af g).wp P a w K Q) := fun a w ft hw => by
  refine wp_enter (f := f) (args := first ++ args.toArray ++ captured) ?_ hE hs (hw.ent hl) fun v m w' hR hm => h v m hR _ w' (ft.put i (Nat.le_of_ble_eq_true hi) v) hm
  have := evs_eval ft.knows hx
  simp [execOp, resolve, Deferred.ofValue, ft.eval hv, invoke, this, run_callFunc hb]
end
end Go.SL

namespace Go.SL
open Go Go.RowKit
section
variable {P : Program} {ops : Array Oper} {Q : Exit → Act → World → Prop}
def waits (ops : Array Oper) (j i : Nat) : Bool :=
  match ops[j]? with
  | some o => o.after.any fun e => Region.binds .any e && e.on == i
  | none => false
def Sure (P : Program) (ops : Array Oper) (o : Oper) (v : Value) (φ : World → Prop) (a : Act) : Prop :=
  (Region.wanted o (yielded ops a.tmps) = true ∧ ∀ w, φ w → (execOp a.eval o).run P w = .ok (.value v) w) ∨ (Region.wanted o (yielded ops a.tmps) = false ∧ v = undef)
theorem Sure.wpOp {i : Nat} {o : Oper} {v : Value} {φ : World → Prop} {a : Act} (hi : ops[i]? = some o) (hy : Sure P ops o v φ a) {K : Act → World → Prop} {w : World} (hw : φ w) (h : K (a.put o.dst v) w) : wpOp P ops Q i K a w := by
  unfold Go.wpOp
  simp only [hi]
  rcases hy with ⟨h1, hv⟩ | ⟨h1, rfl⟩
  · simp only [h1, if_true, Oper.wp, hv w hw, Oper.upon]; exact .inl h
  · simp only [h1, Bool.false_eq_true, if_false]; exact h
theorem wpOp_behind {j : Nat} {oi oj : Oper} (hj : ops[j]? = some oj) (hap : oi.apart ops oj = true) (hsi : ∀ cs b, oi.op ≠ .select cs b) {K : Act → World → Prop} {a : Act} {w : World} (h : wpOp P ops Q j K a w) :
    wpOp P ops Q j (fun a' w' => K a' w' ∧ execOp a'.eval oi = execOp a.eval oi ∧ Region.wanted oi (yielded ops a'.tmps) = Region.wanted oi (yielded ops a.tmps)) a w := by
  obtain ⟨_, _, h3⟩ := Oper.apart_spec hap
  have keep : ∀ (b : Act) (u : Value), b.tmps = a.tmps → execOp (b.put oj.dst u).eval oi = execOp a.eval oi ∧ Region.wanted oi (yielded ops (b.put oj.dst u).tmps) = Region.wanted oi (yielded ops a.tmps) := fun b u hb => by
    have e1 := execOp_put (ops := ops) oi hsi b oj.dst u h3
    have e2 := wanted_put (ops := ops) oi b oj.dst u h3
    have e3 : b.eval = a.eval := by funext x; cases x <;> simp [Act.eval, hb]
    rw [e1, e2, e3, hb]
    exact ⟨rfl, rfl⟩
  unfold wpOp at *
  simp only [hj] at *
  split
  · rename_i hw
    simp only [hw, if_true] at h
    rcases h with h | h
    · refine .inl ?_
      unfold Oper.wp at *
      generalize (execOp a.eval oj).run P w = r at *
      cases r with
      | ok n w' =>
        cases n <;> simp only [Oper.upon] at h ⊢ <;> first
          | exact ⟨h, keep a _ rfl⟩
          | exact ⟨h, keep { a with defers := _ } _ rfl⟩
          | exact Calls.mono h (fun e w'' he => by cases e <;> first | exact ⟨he, keep a _ rfl⟩ | exact he)
          | exact Rows.mono h (fun v w'' he => ⟨he, keep a _ rfl⟩)
      | halt x w' => cases x <;> simp only [Oper.upon] at h ⊢ <;> exact h
    · exact .inr h
  · rename_i hw
    simp only [hw] at h
    exact ⟨h, keep a _ rfl⟩
def wpAnyP (P : Program) (ops : Array Oper) (Q : Exit → Act → World → Prop) : Nat → Array Bool → List (Nat × (World → Prop)) → Act → World → Prop
  | 0, listed, _, a, w => Region.ready .any ops listed = [] ∧ Q .normal a w
  | fuel + 1, listed, S, a, w =>
    (Region.ready .any ops listed = [] → Q .normal a w) ∧
    ∀ j ∈ Region.ready .any ops listed, wpOp P ops Q j (fun a' w' => (∀ p ∈ S, waits ops j p.1 = false → p.2 w') ∧ wpAnyP P ops Q fuel (listed.setIfInBounds j true) (S.filter fun p => !waits ops j p.1) a' w') a w
theorem wpAny_of_P : ∀ (fuel : Nat) (listed : Array Bool) (S : List (Nat × (World → Prop))) (a : Act) (w : World), wpAnyP P ops Q fuel listed S a w → wpAny P .any ops Q fuel listed a w
  | 0, _, _, _, _, h => h
  | fuel + 1, _listed, _S, _a, _w, h => ⟨h.1, fun j hj => wpOp_mono (fun a' w' h' => wpAny_of_P fuel _ _ a' w' h'.2) (h.2 j hj)⟩
theorem wpAnyP_less : ∀ (fuel : Nat) (listed : Array Bool) (S S' : List (Nat × (World → Prop))) (a : Act) (w : World), (∀ p ∈ S', p ∈ S) → wpAnyP P ops Q fuel listed S a w → wpAnyP P ops Q fuel listed S' a w
  | 0, _, _, _, _, _, _, h => h
  | fuel + 1, listed, S, S', a, w, hs, h => ⟨h.1, fun j hj => wpOp_mono (fun a' w' ⟨h1, h2⟩ => ⟨fun p hp => h1 p (hs p hp), wpAnyP_less fuel _ _ _ a' w' (fun p hp => by
      obtain ⟨h3, h4⟩ := List.mem_filter.1 hp
      exact List.mem_filter.2 ⟨hs p h3, h4⟩) h2⟩) (h.2 j hj)⟩
theorem wpAnyP_any : ∀ (fuel : Nat) (listed : Array Bool) (S S' : List (Nat × (World → Prop))) (a : Act) (w : World), (∀ p ∈ S', p ∈ S ∨ ∀ w, p.2 w) → wpAnyP P ops Q fuel listed S a w → wpAnyP P ops Q fuel listed S' a w
  | 0, _, _, _, _, _, _, h => h
  | fuel + 1, listed, S, S', a, w, hs, h => ⟨h.1, fun j hj => wpOp_mono (fun a' w' ⟨h1, h2⟩ => ⟨fun p hp hn => (hs p hp).elim (fun h => h1 p h hn) (fun h => h w'), wpAnyP_any fuel _ _ _ a' w' (fun p hp => by
      obtain ⟨h3, h4⟩ := List.mem_filter.1 hp
      exact (hs p h3).imp_left fun h => List.mem_filter.2 ⟨h, h4⟩) h2⟩) (h.2 j hj)⟩
theorem wpAnyP_more (fuel : Nat) (listed : Array Bool) (S : List (Nat × (World → Prop))) (i : Nat) (a : Act) (w : World) (h : wpAnyP P ops Q fuel listed S a w) : wpAnyP P ops Q fuel listed ((i, Any) :: S) a w :=
  wpAnyP_any fuel listed S _ a w (fun p hp => by
    rcases List.mem_cons.1 hp with rfl | hp
    · exact .inr fun _ => trivial
    · exact .inl hp) h
theorem wpAnyP_take {i : Nat} {oi : Oper} {v : Value} {φ : World → Prop} (hi : ops[i]? = some oi) (hsel : ∀ (j : Nat) (o : Oper) cs b, ops[j]? = some o → o.op ≠ .select cs b)
    (hQ : ∀ c a w, Q (.panic c) (a.put oi.dst v) w → Q (.panic c) a w) :
    ∀ (fuel : Nat) (listed : Array Bool) (S : List (Nat × (World → Prop))) (a : Act) (w : World),
      (∀ j oj, ops[j]? = some oj → j ≠ i → listed.getD j true = false → (∀ e ∈ oj.after, Region.binds .any e = true → e.on ≠ i) → oi.apart ops oj = true) →
      i ∈ Region.ready .any ops listed → Sure P ops oi v φ a → φ w → (∀ p ∈ S, p.2 w) →
      wpAnyP P ops Q fuel (listed.setIfInBounds i true) ((i, φ) :: S) (a.put oi.dst v) w → wpAnyP P ops Q (fuel + 1) listed S a w := by
  intro fuel
  induction fuel with
  | zero =>
    intro listed S a w _ hr hy hφ hS H
    refine ⟨fun h => (by rw [h] at hr; cases hr), fun j hj => ?_⟩
    by_cases hji : j = i
    · subst hji
      exact hy.wpOp hi hφ ⟨fun p hp _ => hS p hp, H⟩
    · have := ready_mono hj hji
      rw [H.1] at this
      cases this
  | succ fuel ih =>
    intro listed S a w hfree hr hy hφ hS H
    refine ⟨fun h => (by rw [h] at hr; cases hr), fun j hj => ?_⟩
    by_cases hji : j = i
    · subst hji
      exact hy.wpOp hi hφ ⟨fun p hp _ => hS p hp, wpAnyP_less _ _ _ _ _ _ (fun p hp => List.mem_cons_of_mem _ (List.mem_filter.1 hp).1) H⟩
    · have h1 := H.2 j (ready_mono hj hji)
      obtain ⟨hjun, oj, hoj, hall⟩ := mem_ready.1 hj
      have hnot : ∀ e ∈ oj.after, Region.binds .any e = true → e.on ≠ i := fun e he hb heq => by
        have h1 := hall e he hb
        have h0 := (mem_ready.1 hr).1
        rw [heq] at h1
        rcases Nat.lt_or_ge i listed.size with h' | h'
        · simp [h'] at h0 h1; rw [h0] at h1; cases h1
        · simp [Array.getElem?_eq_none h'] at h1
      have hap := hfree j oj hoj hji hjun hnot
      have hw : waits ops j i = false := by
        unfold waits
        rw [hoj]
        simp only [Array.any_eq_false]
        intro k hk
        simp only [Bool.and_eq_true, beq_iff_eq, not_and]
        exact fun hb => hnot _ (Array.getElem_mem hk) hb
      let fake : Oper := ⟨oi.dst, .move (.const v), 0, "", #[], none⟩
      have hfake : Yields P ops fake v a := .inl ⟨rfl, fun w => by simp [fake, execOp, Act.eval]⟩
      have hapf : fake.apart ops oj = true := by
        simp only [Oper.apart, Bool.and_eq_true] at hap ⊢
        refine ⟨hap.1, ?_⟩
        cases oj.dst <;> simp [fake, Oper.looksAt, Op.operands]
      have h2 := wpOp_put (oi := fake) hoj hapf (fun cs b => by simp [fake]) (fun cs b => hsel j oj cs b hoj) hQ hfake h1
      have h3 := wpOp_behind (oi := oi) hoj hap (fun cs b => hsel i oi cs b hi) h2
      have hfree' : ∀ k ok, ops[k]? = some ok → k ≠ i → (listed.setIfInBounds j true).getD k true = false →
          (∀ e ∈ ok.after, Region.binds .any e = true → e.on ≠ i) → oi.apart ops ok = true := fun k ok hk hki hun hno => by
        refine hfree k ok hk hki ?_ hno
        by_cases hjk : j = k
        · subst hjk; exact hjun
        · rw [getD_set_ne true hjk] at hun; exact hun
      refine wpOp_mono (fun a' w' ⟨⟨_, h5, h6⟩, h7, h8⟩ => ⟨fun p hp hwp => h5 p (List.mem_cons_of_mem _ hp) hwp, ?_⟩) h3
      refine ih (listed.setIfInBounds j true) _ a' w' hfree' (ready_mono hr (Ne.symm hji)) ?_ (h5 (i, φ) (List.mem_cons_self ..) hw) ?_ ?_
      · unfold Sure at hy ⊢
        rw [h7, h8]; exact hy
      · intro p hp
        obtain ⟨h9, h10⟩ := List.mem_filter.1 hp
        exact h5 p (List.mem_cons_of_mem _ h9) (by simpa using h10)
      · rw [Array.setIfInBounds_comm _ _ hji]
        simp only [List.filter_cons, hw, Bool.not_false, if_true] at h6
        exact h6
def Kept (E : Env) (l : List HP) : List (Nat × (World → Prop)) → Prop
  | [] => True
  | p :: S => (∀ w, Holds E w l → p.2 w) ∧ Kept E l S
theorem Kept.nil {E : Env} {l : List HP} : Kept E l [] := trivial
theorem Kept.cons {E : Env} {l : List HP} {i : Nat} {φ : World → Prop} {S : List (Nat × (World → Prop))} (h : ∀ w, Holds E w l → φ w) (k : Kept E l S) : Kept E l ((i, φ) :: S) := ⟨h, k⟩
theorem Kept.all {E : Env} {l : List HP} : ∀ {S : List (Nat × (World → Prop))}, Kept E l S → ∀ {w : World}, Holds E w l → ∀ p ∈ S, p.2 w
  | [], _, _, _, p, hp => by cases hp
  | q :: S, ⟨h1, h2⟩, w, hw, p, hp => by
    rcases List.mem_cons.1 hp with rfl | hp
    · exact h1 w hw
    · exact Kept.all h2 hw p hp
def Draw (P : Program) (ops : Array Oper) (Q : Exit → Act → World → Prop) (fuel : Nat) (listed : Array Bool) (S : List (Nat × (World → Prop))) (a : Act) (w : World) : Prop :=
  (∀ p ∈ S, p.2 w) → wpAnyP P ops Q fuel listed S a w
section
variable {E : Env} {n : Nat} {D : List Deferred} {ts : List (Nat × Value)} {l : List HP} {fuel : Nat} {listed : Array Bool} {S : List (Nat × (World → Prop))}
def NoPanic (Q : Exit → Act → World → Prop) : Exit → Act → World → Prop
  | .panic _, _, _ => False
  | e, a, w => Q e a w
theorem Dr.start {id : Nat} {os : List Oper} (hm : P.follows .mixedOrders = true) (h : At E n D ts l (Draw P os.toArray (NoPanic Q) os.length (Array.replicate os.length false) [])) : At E n D ts l ((Code.region id os.toArray true).wp P Q) := fun a w f hw => by
  refine wp_mono (Q := NoPanic Q) (wp_region_any hm ?_) fun e a w h => by cases e <;> first | exact h | exact h.elim
  simp only [List.size_toArray]
  exact wpAny_of_P _ _ _ _ _ (h a _ ⟨f.size, f.defers, f.get⟩ (hw.drawn _) (fun p hp => by cases hp))
theorem Dr.take (i : Nat) {d : Nat} {op : Op} {ty : TypeId} {pos : String} {af : Array Edge} {v : Value} {φ : World → Prop} (hs : Region.noSelect ops = true) (hi : ops[i]? = some ⟨some d, op, ty, pos, af, none⟩) (hd : Nat.blt d n = true)
    (hr : (Region.ready .any ops listed).contains i = true) (hf : Region.free .any ops listed i = true) (hev : Ev P ts op v φ) (hφ : ∀ w, Holds E w l → φ w)
    (h : At E n D ((d, v) :: ts) l (Draw P ops (NoPanic Q) fuel (listed.setIfInBounds i true) ((i, φ) :: S))) : At E n D ts l (Draw P ops (NoPanic Q) (fuel + 1) listed S) := fun a w f hw hS =>
  wpAnyP_take hi (Region.noSelect_spec hs) (fun _ _ _ h => h.elim) fuel listed S a w (Region.free_spec hi hf) (by simpa using hr) (.inl ⟨rfl, fun w hw => hev a w _ _ _ _ _ f.knows hw⟩) (hφ w hw) hS
    (h _ w (f.put d (Nat.le_of_ble_eq_true hd) v) hw (fun p hp => by
      rcases List.mem_cons.1 hp with rfl | hp
      · exact hφ w hw
      · exact hS p hp))
theorem Dr.pure (i : Nat) {d : Nat} {op : Op} {ty : TypeId} {pos : String} {af : Array Edge} {v : Value} (hs : Region.noSelect ops = true) (hi : ops[i]? = some ⟨some d, op, ty, pos, af, none⟩) (hd : Nat.blt d n = true)
    (hr : (Region.ready .any ops listed).contains i = true) (hf : Region.free .any ops listed i = true) (hev : Ev P ts op v Any)
    (h : At E n D ((d, v) :: ts) l (Draw P ops (NoPanic Q) fuel (listed.setIfInBounds i true) S)) : At E n D ts l (Draw P ops (NoPanic Q) (fuel + 1) listed S) := fun a w f hw hS => by
  have hS' : ∀ p ∈ (i, Any) :: S, p.2 w := fun p hp => by
    rcases List.mem_cons.1 hp with rfl | hp
    · trivial
    · exact hS p hp
  refine wpAnyP_take hi (Region.noSelect_spec hs) (fun _ _ _ h => h.elim) fuel listed S a w (Region.free_spec hi hf) (by simpa using hr) (.inl ⟨rfl, fun w hw => hev a w _ _ _ _ _ f.knows hw⟩) trivial hS ?_
  exact wpAnyP_more fuel _ S i _ w (h _ w (f.put d (Nat.le_of_ble_eq_true hd) v) hw hS)
theorem Dr.off (i : Nat) {o : Oper} {d j t : Nat} {b c : Bool} (hs : Region.noSelect ops = true) (hi : ops[i]? = some o) (ho : o.dst = some d) (hd : Nat.blt d n = true) (hg : o.guard = some (j, b)) (ht : (ops[j]?).bind (·.dst) = some t) (hv : look t ts = some (.bool c)) (hb : c = !b)
    (hr : (Region.ready .any ops listed).contains i = true) (hf : Region.free .any ops listed i = true)
    (h : At E n D ((d, undef) :: ts) l (Draw P ops (NoPanic Q) fuel (listed.setIfInBounds i true) S)) : At E n D ts l (Draw P ops (NoPanic Q) (fuel + 1) listed S) := fun a w f hw hS => by
  have hS' : ∀ p ∈ (i, Any) :: S, p.2 w := fun p hp => by
    rcases List.mem_cons.1 hp with rfl | hp
    · trivial
    · exact hS p hp
  have hno : Region.wanted o (yielded ops a.tmps) = false := by subst hb; cases b <;> simp [Region.wanted, hg, yielded, ht, f.get t _ hv]
  refine wpAnyP_take (v := undef) (φ := Any) hi (Region.noSelect_spec hs) (fun _ _ _ h => h.elim) fuel listed S a w (Region.free_spec hi hf) (by simpa using hr) (.inr ⟨hno, rfl⟩) trivial hS ?_
  rw [ho]
  exact wpAnyP_more fuel _ S i _ w (h _ w (f.put d (Nat.le_of_ble_eq_true hd) _) hw hS)
theorem Dr.on (i : Nat) {_o : Oper} {op : Op} {ty : TypeId} {pos : String} {af : Array Edge} {d j t : Nat} {b : Bool} {v : Value} {φ : World → Prop} (hs : Region.noSelect ops = true) (hi : ops[i]? = some ⟨some d, op, ty, pos, af, some (j, b)⟩) (hd : Nat.blt d n = true) (ht : (ops[j]?).bind (·.dst) = some t) (hv : look t ts = some (.bool b))
    (hr : (Region.ready .any ops listed).contains i = true) (hf : Region.free .any ops listed i = true) (hev : Ev P ts op v φ) (hφ : ∀ w, Holds E w l → φ w)
    (h : At E n D ((d, v) :: ts) l (Draw P ops (NoPanic Q) fuel (listed.setIfInBounds i true) ((i, φ) :: S))) : At E n D ts l (Draw P ops (NoPanic Q) (fuel + 1) listed S) := fun a w f hw hS =>
  wpAnyP_take hi (Region.noSelect_spec hs) (fun _ _ _ h => h.elim) fuel listed S a w (Region.free_spec hi hf) (by simpa using hr) (.inl ⟨by simp [Region.wanted, yielded, ht, f.get t _ hv], fun w hw => hev a w _ _ _ _ _ f.knows hw⟩) (hφ w hw) hS
    (h _ w (f.put d (Nat.le_of_ble_eq_true hd) v) hw (fun p hp => by
      rcases List.mem_cons.1 hp with rfl | hp
      · exact hφ w hw
      · exact hS p hp))
theorem Dr.run (j : Nat) {o : Oper} (hi : ops[j]? = some o) (hg : o.guard = none) (hr : Region.ready .any ops listed = [j])
    (h : At E n D ts l (fun a w => o.wp P a w (fun a' w' => (∀ p ∈ S, waits ops j p.1 = false → p.2 w') ∧ wpAnyP P ops (NoPanic Q) fuel (listed.setIfInBounds j true) (S.filter fun p => !waits ops j p.1) a' w') (NoPanic Q))) :
    At E n D ts l (Draw P ops (NoPanic Q) (fuel + 1) listed S) := fun a w f hw _ => by
  refine ⟨fun h0 => (by rw [h0] at hr; cases hr), ?_⟩
  rw [hr]
  intro k hk
  simp at hk
  subst hk
  unfold wpOp
  simp only [hi, Region.wanted, hg, if_true]
  exact .inl (h a w f hw)
theorem Dr.run2 (j k : Nat) {o u : Oper} (hi : ops[j]? = some o) (hg : o.guard = none) (hk : ops[k]? = some u) (hu : u.guard = none) (hr : Region.ready .any ops listed = [j, k])
    (h : At E n D ts l (fun a w => o.wp P a w (fun a' w' => (∀ p ∈ S, waits ops j p.1 = false → p.2 w') ∧ wpAnyP P ops (NoPanic Q) fuel (listed.setIfInBounds j true) (S.filter fun p => !waits ops j p.1) a' w') (NoPanic Q)))
    (h' : At E n D ts l (fun a w => u.wp P a w (fun a' w' => (∀ p ∈ S, waits ops k p.1 = false → p.2 w') ∧ wpAnyP P ops (NoPanic Q) fuel (listed.setIfInBounds k true) (S.filter fun p => !waits ops k p.1) a' w') (NoPanic Q))) :
    At E n D ts l (Draw P ops (NoPanic Q) (fuel + 1) listed S) := fun a w f hw _ => by
  refine ⟨fun h0 => (by rw [h0] at hr; cases hr), ?_⟩
  rw [hr]
  intro x hx
  simp at hx
  unfold wpOp
  rcases hx with rfl | rfl
  · simp only [hi, Region.wanted, hg, if_true]
    exact .inl (h a w f hw)
  · simp only [hk, Region.wanted, hu, if_true]
    exact .inl (h' a w f hw)
def pick : List Bool → List (Nat × (World → Prop)) → List (Nat × (World → Prop))
  | true :: m, p :: S => p :: pick m S
  | false :: m, _ :: S => pick m S
  | _, _ => []
theorem pick_filter {f : Nat → Bool} : ∀ {S : List (Nat × (World → Prop))} {mask : List Bool}, (S.map fun p => f p.1) = mask → (S.filter fun p => f p.1) = pick mask S
  | [], mask, h => by subst h; rfl
  | p :: S, mask, h => by
    subst h
    simp only [List.map_cons, List.filter_cons]
    cases hf : f p.1 with
    | true => simp only [if_true, pick]; rw [pick_filter rfl]
    | false => simp only [Bool.false_eq_true, if_false, pick]; rw [pick_filter rfl]
theorem Dr.kept {j : Nat} (mask : List Bool) (hm : (S.map fun p => !waits ops j p.1) = mask) (hk : Kept E l (pick mask S)) (h : At E n D ts l (Draw P ops (NoPanic Q) fuel (listed.setIfInBounds j true) (pick mask S))) :
    At E n D ts l (fun a' w' => (∀ p ∈ S, waits ops j p.1 = false → p.2 w') ∧ wpAnyP P ops (NoPanic Q) fuel (listed.setIfInBounds j true) (S.filter fun p => !waits ops j p.1) a' w') := fun a w f hw => by
  have hS := pick_filter (f := fun i => !waits ops j i) hm
  rw [hS]
  have := hk.all hw
  refine ⟨fun p hp hn => this p ?_, h a w f hw this⟩
  rw [← hS]
  exact List.mem_filter.2 ⟨hp, by simp [hn]⟩
theorem Dr.done (hr : Region.ready .any ops listed = []) (h : At E n D ts l (Q .normal)) : At E n D ts l (Draw P ops (NoPanic Q) fuel listed S) := fun a w f hw _ => by
  cases fuel with
  | zero => exact ⟨hr, h a w f hw⟩
  | succ m => exact ⟨fun _ => h a w f hw, by rw [hr]; simp⟩
end
end
end Go.SL

namespace Go.SL
open Go Go.RowKit
section
variable {P : Program} {E : Env} {n : Nat} {D : List Deferred} {ts : List (Nat × Value)} {l : List HP} {ops : Array Oper} {Q : Exit → Act → World → Prop} {rest : List Oper} {i : Nat} {ty : TypeId} {pos : String} {af : Array Edge}
theorem At.app0 {fr : List HP} {K : Act → World → Prop} (h : At E n D ts fr K) : At E n D ts ([] ++ fr) K := h
theorem At.app1 {p : HP} {fr : List HP} {K : Act → World → Prop} (h : At E n D ts (p :: fr) K) : At E n D ts ([p] ++ fr) K := h
theorem At.app2 {p q : HP} {fr : List HP} {K : Act → World → Prop} (h : At E n D ts (p :: q :: fr) K) : At E n D ts ([p, q] ++ fr) K := h
theorem At.app3 {p q r : HP} {fr : List HP} {K : Act → World → Prop} (h : At E n D ts (p :: q :: r :: fr) K) : At E n D ts ([p, q, r] ++ fr) K := h
theorem At.app4 {p q r s : HP} {fr : List HP} {K : Act → World → Prop} (h : At E n D ts (p :: q :: r :: s :: fr) K) : At E n D ts ([p, q, r, s] ++ fr) K := h
theorem At.app5 {p q r s t : HP} {fr : List HP} {K : Act → World → Prop} (h : At E n D ts (p :: q :: r :: s :: t :: fr) K) : At E n D ts ([p, q, r, s, t] ++ fr) K := h
theorem L.mv {x : Operand} {v : Value} (hi : Nat.blt i n = true) (hx : ev ts x = some v) (h : At E n D ((i, v) :: ts) l (wpList P ops Q rest)) : At E n D ts l (wpList P ops Q (⟨some i, .move x, ty, pos, af, none⟩ :: rest)) := L.pure hi (ev_move hx) h
theorem L.as {x : Operand} {v : Value} (hi : Nat.blt i n = true) (hx : ev ts x = some v) (h : At E n D ((i, v) :: ts) l (wpList P ops Q rest)) : At E n D ts l (wpList P ops Q (⟨some i, .assign x, ty, pos, af, none⟩ :: rest)) := L.pure hi (ev_assign hx) h
theorem L.nc {x : Operand} {p : Addr} (hi : Nat.blt i n = true) (hx : ev ts x = some (.pointer (some p))) (h : At E n D ((i, .pointer (some p)) :: ts) l (wpList P ops Q rest)) : At E n D ts l (wpList P ops Q (⟨some i, .nilCheck x, ty, pos, af, none⟩ :: rest)) := L.pure hi (ev_nil hx) h
theorem L.fa (off : Nat) {s : TypeId} {x : Operand} {j b o : Nat} (hi : Nat.blt i n = true) (hf : fieldOff P s j = some off) (hx : ev ts x = some (.pointer (some ⟨b, o, none⟩))) (h : At E n D ((i, .pointer (some ⟨b, o + off, none⟩)) :: ts) l (wpList P ops Q rest)) :
    At E n D ts l (wpList P ops Q (⟨some i, .fieldAddr s x j, ty, pos, af, none⟩ :: rest)) := L.pure hi (ev_field hf hx) h
theorem L.ld {t tb : TypeId} {x : Operand} {b o : Nat} {cs : Array Value} {fz : Nat × Nat} {r : List HP} {v : Value} [hh : Has b l (.cells cs tb fz) r] (hi : Nat.blt i n = true) (hd : isAggB P t = some false) (hx : ev ts x = some (.pointer (some ⟨b, o, none⟩))) (hv : cs[o]? = some v)
    (h : At E n D ((i, v) :: ts) l (wpList P ops Q rest)) : At E n D ts l (wpList P ops Q (⟨some i, .load t x, ty, pos, af, none⟩ :: rest)) := L.val hi (ev_load1 hd hx) (cellIs hv) h
theorem L.st {t tb : TypeId} {x y : Operand} {b o : Nat} {cs : Array Value} {r : List HP} {v : Value} [hh : Has b l (.cells cs tb) r] (hz : sizeIs P t 1) (hx : ev ts x = some (.pointer (some ⟨b, o, none⟩))) (hy : ev ts y = some v) (hv : v.oneCell' = true) (hi : o < cs.size)
    (h : At E n D ts (blk b tb (cs.setIfInBounds o v) :: r) (wpList P ops Q rest)) : At E n D ts l (wpList P ops Q (⟨none, .store t x y, ty, pos, af, none⟩ :: rest)) := L.op rfl (o_store1 rfl hz hx hy hv hi h)
theorem ev_extract {x : Operand} {vs : Array Value} {k : Nat} {v : Value} (hx : ev ts x = some (.tuple vs)) (hv : vs[k]? = some v) : Ev P ts (.extract x k) v Any := by
  intro a w _ _ _ _ _ kn _
  simp [execOp, kn.eval hx, Instr.extract, hv]
theorem L.ex {x : Operand} {vs : Array Value} {k : Nat} {v : Value} (hi : Nat.blt i n = true) (hx : ev ts x = some (.tuple vs)) (hv : vs[k]? = some v) (h : At E n D ((i, v) :: ts) l (wpList P ops Q rest)) : At E n D ts l (wpList P ops Q (⟨some i, .extract x k, ty, pos, af, none⟩ :: rest)) := L.pure hi (ev_extract hx hv) h
theorem ev_lenS {t t' : TypeId} {x : Operand} {p : Option Addr} {m c : Nat} (ht : P.underlying t = some (.slice t')) (hx : ev ts x = some (.slice p m c)) : Ev P ts (.call { callee := .builtin .len, args := #[x], argTypes := #[t] }) (.int .i64 m) Any := by
  intro a w _ _ _ _ _ kn _
  simp [execOp, resolve, invoke, builtin, Builtin.len_, kn.eval hx, run_underlying ht, goInt]
theorem ev_iface {t : TypeId} {d : TypeDesc} {x : Operand} {v : Value} (ht : P.underlying t = some d) (hd : (match d with | .interface _ => true | _ => false) = false) (hx : ev ts x = some v) : Ev P ts (.makeInterface t x) (.iface t v) Any := by
  intro a w _ _ _ _ _ kn _
  simp only [execOp, kn.eval hx, Instr.makeInterface, Sem.run_bind, run_underlying ht, Result.andThen_ok]
  cases d <;> simp_all
theorem ev_func {fn : Fn} {xs ys : List Operand} {us vs : List Value} (hx : evs ts xs = some us) (hy : evs ts ys = some vs) : Ev P ts (.makeFunc fn xs.toArray ys.toArray) (.func fn us.toArray vs.toArray) Any := by
  intro a w _ _ _ _ _ kn _
  simp [execOp, Instr.makeFunc, evs_eval kn hx, evs_eval kn hy]
theorem w64 {x : Int} (h : -9223372036854775808 ≤ x ∧ x ≤ 9223372036854775807) : IntKind.i64.wrap x = x := IntWalk.i64_in x h
theorem wu64 {x : Int} (h : 0 ≤ x ∧ x ≤ 18446744073709551615) : IntKind.u64.wrap x = x := IntWalk.u64_in x h
theorem wu8 {x : Int} (h : 0 ≤ x ∧ x ≤ 255) : IntKind.u8.wrap x = x := IntWalk.u8_in x h
theorem wu32 {x : Int} (h : 0 ≤ x ∧ x ≤ 4294967295) : IntKind.u32.wrap x = x := IntWalk.u32_in x h
theorem mu64 (x : Int) : IntKind.u64.wrap x = x % 18446744073709551616 := by simp [IntKind.wrap, IntKind.bits, IntKind.signed]
def Meet {X : Type} (n : Nat) (D : List Deferred) (E : Env) (T : X → List (Nat × Value)) (L : X → List HP) (I : X → Prop) (Q : Exit → Act → World → Prop) : Exit → Act → World → Prop
  | .normal, a, w => ∃ x, I x ∧ Fits n D (T x) a ∧ Holds E w (L x)
  | e, a, w => Q e a w
theorem At.cut {X : Type} {c : Code} {K : Act → World → Prop} (T : X → List (Nat × Value)) (L : X → List HP) (I : X → Prop) (h1 : At E n D ts l (c.wp P (Meet n D E T L I Q))) (h2 : ∀ x, I x → At E n D (T x) (L x) K) : At E n D ts l (c.wp P (Exit.then K Q)) :=
  fun a w f hw => Code.wp_mono (fun e a' w' hq => by
    cases e with
    | normal => obtain ⟨x, hI, hf, hH⟩ := hq; exact h2 x hI a' w' hf hH
    | _ => exact hq) (h1 a w f hw)
theorem At.meet {X : Type} {T : X → List (Nat × Value)} {L : X → List HP} {I : X → Prop} (x : X) (hI : I x) (hs : Sub (T x) ts) (hl : Ent l (L x)) : At E n D ts l (Meet n D E T L I Q .normal) := fun _ _ f hw => ⟨x, hI, f.sub hs, hw.ent hl⟩
theorem At.meetRet {X : Type} {T : X → List (Nat × Value)} {L : X → List HP} {I : X → Prop} (h : At E n D ts l (Q .ret)) : At E n D ts l (Meet n D E T L I Q .ret) := h
end
section
variable {P : Program} {E : Env} {n : Nat} {D : List Deferred} {ts : List (Nat × Value)} {l : List HP} {ops : Array Oper} {Q : Exit → Act → World → Prop} {fuel : Nat} {listed : Array Bool} {S : List (Nat × (World → Prop))}
def mayTake (ops : Array Oper) (listed : Array Bool) (i : Nat) : Bool := Region.noSelect ops && (Region.ready .any ops listed).contains i && Region.free .any ops listed i
theorem Dr.p (i : Nat) {d : Nat} {op : Op} {ty : TypeId} {pos : String} {af : Array Edge} {v : Value} (hi : ops[i]? = some ⟨some d, op, ty, pos, af, none⟩) (hd : Nat.blt d n = true) (hm : mayTake ops listed i = true) (hev : Ev P ts op v Any)
    (h : At E n D ((d, v) :: ts) l (Draw P ops (NoPanic Q) fuel (listed.setIfInBounds i true) S)) : At E n D ts l (Draw P ops (NoPanic Q) (fuel + 1) listed S) := by
  simp only [mayTake, Bool.and_eq_true] at hm
  exact Dr.pure i hm.1.1 hi hd hm.1.2 hm.2 hev h
theorem Dr.ld (i : Nat) {d : Nat} {op : Op} {ty : TypeId} {pos : String} {af : Array Edge} {v : Value} {φ : World → Prop} (hi : ops[i]? = some ⟨some d, op, ty, pos, af, none⟩) (hd : Nat.blt d n = true) (hm : mayTake ops listed i = true) (hev : Ev P ts op v φ) (hφ : ∀ w, Holds E w l → φ w)
    (h : At E n D ((d, v) :: ts) l (Draw P ops (NoPanic Q) fuel (listed.setIfInBounds i true) ((i, φ) :: S))) : At E n D ts l (Draw P ops (NoPanic Q) (fuel + 1) listed S) := by
  simp only [mayTake, Bool.and_eq_true] at hm
  exact Dr.take i hm.1.1 hi hd hm.1.2 hm.2 hev hφ h
end
end Go.SL
