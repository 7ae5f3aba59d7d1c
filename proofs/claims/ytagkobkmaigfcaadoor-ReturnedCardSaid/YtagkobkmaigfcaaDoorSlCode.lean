/- The logic's rules for lists of operations, for code, for memory that is made and written, for calls and returns. -/
import Derived.Test.YtagkobkmaigfcaaDoorSlOps
namespace Go.SL
open Go Go.RowKit

/-- a block by its number, among facts -/
class Has (b : Nat) (l : List HP) (o : outParam Obj) (r : outParam (List HP)) : Prop where
  sel : Sel (ob b o) l r
instance Has.head {b : Nat} {o : Obj} {l : List HP} : Has b (ob b o :: l) o l := ⟨.head⟩
instance (priority := low) Has.tail {b : Nat} {o : Obj} {l r : List HP} {p : HP} [h : Has b l o r] : Has b (p :: l) o (p :: r) := ⟨.tail h.sel⟩

section
variable {P : Program} {E : Env} {n : Nat} {D : List Deferred} {ts : List (Nat × Value)} {l : List HP} {ops : Array Oper} {Q : Exit → Act → World → Prop} {rest : List Oper}

theorem At.mono {K K' : Act → World → Prop} (h : At E n D ts l K) (hk : ∀ a w, K a w → K' a w) : At E n D ts l K' := fun a w f s => hk a w (h a w f s)
theorem At.ent {l' : List HP} {K : Act → World → Prop} (e : Ent l l') (h : At E n D ts l' K) : At E n D ts l K := fun a w f s => h a w f (s.ent e)
/-- what is known of slots, less of it -/
def Sub : List (Nat × Value) → List (Nat × Value) → Prop
  | [], _ => True
  | (i, v) :: t, ts => look i ts = some v ∧ Sub t ts
theorem Sub.look : ∀ {t ts : List (Nat × Value)}, Sub t ts → ∀ {i : Nat} {v : Value}, SL.look i t = some v → SL.look i ts = some v
  | [], _, _, _, _, h => by simp [SL.look] at h
  | (j, u) :: t, ts, ⟨h0, h1⟩, i, v, h => by
    simp only [SL.look] at h
    cases hb : Nat.beq i j with
    | true =>
      rw [hb] at h
      simp at h
      rw [Nat.eq_of_beq_eq_true hb, ← h]; exact h0
    | false => rw [hb] at h; exact h1.look h
theorem Fits.sub {t : List (Nat × Value)} {a : Act} (h : Fits n D ts a) (s : Sub t ts) : Fits n D t a := ⟨h.size, h.defers, fun i v hi => h.get i v (s.look hi)⟩
theorem At.sub {t : List (Nat × Value)} {K : Act → World → Prop} (s : Sub t ts) (h : At E n D t l K) : At E n D ts l K := fun a w f hw => h a w (f.sub s) hw

/-- two blocks are two -/
theorem At.ne {b b' : Nat} {o o' : Obj} {r r' : List HP} {K : Act → World → Prop} [h : Has b l o r] [h' : Has b' r o' r'] (k : b ≠ b' → At E n D ts l K) : At E n D ts l K :=
  fun a w f s => k (s.ne h.sel h'.sel) a w f s

/-! ### facts opened -/
theorem At.ex {α : Sort _} {g : α → HP} {r : List HP} {K : Act → World → Prop} (s : Sel (HP.ex g) l r) (h : ∀ x, At E n D ts (g x :: r) K) : At E n D ts l K := fun a w f hw => by
  have h1 := hw.sel s
  obtain ⟨F1, F2, h2, h3, hd, ⟨x, hx⟩, hl⟩ := h1.star
  exact h x a w f ⟨hw.is, F1, F2, h2, h3, hd, hx, hl⟩
theorem At.pure {p : Prop} {r : List HP} {K : Act → World → Prop} (s : Sel (HP.pure p) l r) (h : p → At E n D ts r K) : At E n D ts l K := fun a w f hw => by
  have h1 := hw.sel s
  obtain ⟨F1, F2, h2, h3, hd, hx, hl⟩ := h1.star
  exact h hx a w f ⟨hw.is, hl.mono h3⟩
theorem At.all {m : List HP} {r : List HP} {K : Act → World → Prop} (s : Sel (HP.all m) l r) (h : At E n D ts (m ++ r) K) : At E n D ts l K := fun a w f hw => h a w f ((hw.sel s).ent Ent.unall)
/-- a fact on the world that follows -/
theorem At.fact {p : Prop} {K : Act → World → Prop} (hp : ∀ w, Holds E w l → p) (h : p → At E n D ts l K) : At E n D ts l K := fun a w f hw => h (hp w hw) a w f hw

/-! ### lists of operations -/

theorem L.nil (h : At E n D ts l (Q .normal)) : At E n D ts l (wpList P ops Q []) := h
theorem L.op {o : Oper} (hg : o.guard = none) (h : At E n D ts l (fun a w => o.wp P a w (wpList P ops Q rest) Q)) : At E n D ts l (wpList P ops Q (o :: rest)) := fun a w f hw => by
  unfold wpList
  rw [if_pos (by simp [Region.wanted, hg])]
  exact .inl (h a w f hw)

theorem Ev.wp {op : Op} {v : Value} {φ : World → Prop} (h : Ev P ts op v φ) {a : Act} {w : World} {d : Option Tmp} {ty : TypeId} {pos : String} {af : Array Edge} {g : Option (Nat × Bool)} {K : Act → World → Prop} (k : Knows ts a) (hφ : φ w) (hk : K (a.put d v) w) :
    (Oper.mk d op ty pos af g).wp P a w K Q := by
  unfold Oper.wp
  rw [h a w d ty pos af g k hφ]
  exact hk

/-- an operation that only looks -/
theorem L.val {op : Op} {v : Value} {φ : World → Prop} {i : Nat} {ty : TypeId} {pos : String} {af : Array Edge} (hi : Nat.blt i n = true) (hev : Ev P ts op v φ) (hφ : ∀ w, Holds E w l → φ w) (h : At E n D ((i, v) :: ts) l (wpList P ops Q rest)) :
    At E n D ts l (wpList P ops Q (⟨some i, op, ty, pos, af, none⟩ :: rest)) :=
  L.op rfl fun _a w f hw => hev.wp f.knows (hφ w hw) (h _ w (f.put i (Nat.le_of_ble_eq_true hi) v) hw)
/-- one that asks nothing of the world -/
theorem L.pure {op : Op} {v : Value} {i : Nat} {ty : TypeId} {pos : String} {af : Array Edge} (hi : Nat.blt i n = true) (hev : Ev P ts op v Any) (h : At E n D ((i, v) :: ts) l (wpList P ops Q rest)) :
    At E n D ts l (wpList P ops Q (⟨some i, op, ty, pos, af, none⟩ :: rest)) := L.val hi hev (fun _ _ => trivial) h
theorem L.pureN {op : Op} {v : Value} {ty : TypeId} {pos : String} {af : Array Edge} (hev : Ev P ts op v Any) (h : At E n D ts l (wpList P ops Q rest)) :
    At E n D ts l (wpList P ops Q (⟨none, op, ty, pos, af, none⟩ :: rest)) :=
  L.op rfl fun _a w f hw => hev.wp f.knows trivial (h _ w f hw)

/-- a guarded operation: the guard's word is known -/
theorem L.on {o : Oper} {j t : Nat} {b : Bool} (hg : o.guard = some (j, b)) (ht : (ops[j]?).bind (·.dst) = some t) (hv : look t ts = some (.bool b)) (h : At E n D ts l (fun a w => o.wp P a w (wpList P ops Q rest) Q)) : At E n D ts l (wpList P ops Q (o :: rest)) := fun a w f hw => by
  unfold wpList
  rw [if_pos (by simp [Region.wanted, hg, yielded, ht, f.get t _ hv])]
  exact .inl (h a w f hw)
theorem L.off {o : Oper} {j t i : Nat} {b c : Bool} (hd : o.dst = some i) (hi : Nat.blt i n = true) (hg : o.guard = some (j, b)) (ht : (ops[j]?).bind (·.dst) = some t) (hv : look t ts = some (.bool c)) (hb : c = !b) (h : At E n D ((i, undef) :: ts) l (wpList P ops Q rest)) : At E n D ts l (wpList P ops Q (o :: rest)) := fun a w f hw => by
  unfold wpList
  rw [if_neg (by subst hb; cases b <;> simp [Region.wanted, hg, yielded, ht, f.get t _ hv]), hd]
  exact h _ w (f.put i (Nat.le_of_ble_eq_true hi) _) hw
theorem L.offN {o : Oper} {j t : Nat} {b c : Bool} (hd : o.dst = none) (hg : o.guard = some (j, b)) (ht : (ops[j]?).bind (·.dst) = some t) (hv : look t ts = some (.bool c)) (hb : c = !b) (h : At E n D ts l (wpList P ops Q rest)) : At E n D ts l (wpList P ops Q (o :: rest)) := fun a w f hw => by
  unfold wpList
  rw [if_neg (by subst hb; cases b <;> simp [Region.wanted, hg, yielded, ht, f.get t _ hv]), hd]
  exact h _ w f hw
/-- the guarded one, when it runs -/
theorem L.vala {op : Op} {v : Value} {φ : World → Prop} {i : Nat} {ty : TypeId} {pos : String} {af : Array Edge} {g : Option (Nat × Bool)} {K : Act → World → Prop} (hi : Nat.blt i n = true) (hev : Ev P ts op v φ) (hφ : ∀ w, Holds E w l → φ w) (h : At E n D ((i, v) :: ts) l K) :
    At E n D ts l (fun a w => (Oper.mk (some i) op ty pos af g).wp P a w K Q) := fun _a w f hw => hev.wp f.knows (hφ w hw) (h _ w (f.put i (Nat.le_of_ble_eq_true hi) v) hw)

/-! ### facts on cells, from what is held -/
theorem cellIs {b i : Nat} {t : TypeId} {cs : Array Value} {fz : Nat × Nat} {r : List HP} {v : Value} [h : Has b l (.cells cs t fz) r] (hv : cs[i]? = some v) : ∀ w, Holds E w l → CellIs ⟨b, i, none⟩ v w := fun w hw => by
  have := (hw.ob h.sel).1
  simp [CellIs, World.cell?, this, hv]
theorem rowIs {b i : Nat} {t : TypeId} {cs : Array Value} {fz : Nat × Nat} {r : List HP} {vs : List Value} [h : Has b l (.cells cs t fz) r] (hv : ∀ j v, vs[j]? = some v → cs[i + j]? = some v) : ∀ w, Holds E w l → RowIs b i vs w := fun w hw j v hj => by
  have := (hw.ob h.sel).1
  simp [World.cell?, this, hv j v hj]
theorem objIs {b : Nat} {o : Obj} {r : List HP} [h : Has b l o r] : ∀ w, Holds E w l → ObjIs b o w := fun _ hw => (hw.ob h.sel).1

/-! ### memory made and written -/

/-- a new block -/
theorem wp_new {o : Oper} {i : Nat} {t : TypeId} {cs : Array Value} {K : Act → World → Prop} {a : Act} {w : World} (hd : o.dst = some i) (hi : Nat.blt i n = true)
    (hr : (execOp a.eval o).run P w = .ok (.value (.pointer (some ⟨w.heap.size, 0, none⟩))) (w.alloc (.cells cs t)))
    (h : ∀ b, At E n D ((i, .pointer (some ⟨b, 0, none⟩)) :: ts) (blk b t cs :: l) K) (f : Fits n D ts a) (hw : Holds E w l) : o.wp P a w K Q := by
  unfold Oper.wp
  rw [hr]
  show K (a.put o.dst _) _
  rw [hd]
  exact h _ _ _ (f.put i (Nat.le_of_ble_eq_true hi) _) (hw.alloc _)

/-- the zero value of a type -/
def zeroIs (P : Program) (t : TypeId) (z : Value) : Prop := (P.info? t).bind (·.zero) = some z
theorem run_zeroIs {t : TypeId} {z : Value} (h : zeroIs P t z) (w : World) : (zeroValue t).run P w = .ok z w := by
  unfold zeroIs at h
  cases hi : P.info? t with
  | none => simp [hi] at h
  | some i => simp [hi] at h; simp [zeroValue, typeInfo, hi, h]

theorem o_alloc {i : Nat} {t ty : TypeId} {pos : String} {af : Array Edge} {g : Option (Nat × Bool)} {z : Value} {K : Act → World → Prop} (hi : Nat.blt i n = true) (hz : zeroIs P t z)
    (h : ∀ b, At E n D ((i, .pointer (some ⟨b, 0, none⟩)) :: ts) (blk b t z.cells :: l) K) : At E n D ts l (fun a w => (Oper.mk (some i) (.alloc t) ty pos af g).wp P a w K Q) := fun a w f hw =>
  wp_new rfl hi (by simp [execOp, Instr.alloc, run_zeroIs hz, newVar, newRow]) h f hw

theorem o_box {i : Nat} {t ty : TypeId} {pos : String} {af : Array Edge} {g : Option (Nat × Bool)} {x : Operand} {v : Value} {K : Act → World → Prop} (hi : Nat.blt i n = true) (hx : ev ts x = some v)
    (h : ∀ b, At E n D ((i, .pointer (some ⟨b, 0, none⟩)) :: ts) (blk b t v.cells :: l) K) : At E n D ts l (fun a w => (Oper.mk (some i) (.box t x) ty pos af g).wp P a w K Q) := fun a w f hw =>
  wp_new rfl hi (by simp [execOp, Instr.box, f.eval hx, newVar, newRow]) h f hw

/-- one cell written -/
theorem Holds.store {E : Env} {w : World} {l r : List HP} {b i : Nat} {t : TypeId} {cs : Array Value} {v : Value} (h : Holds E w l) (s : Sel (blk b t cs) l r) : Holds E (w.setCell ⟨b, i, none⟩ v) (blk b t (cs.setIfInBounds i v) :: r) := by
  have h1 := h.sel s
  have hb := (h.ob s).1
  refine Holds.set (w := w) h1 rfl rfl rfl (by simp [World.setCell]) ?_ fun k hk => Below.heap_setCell _ _ _ _ (by simpa using hk)
  simp [World.setCell, hb, Array.getElem?_modify]

theorem run_store1 {w : World} {b i : Nat} {t : TypeId} {cs : Array Value} {v : Value} (hb : w.heap[b]? = some (.cells cs t)) (hi : i < cs.size) (hv : v.oneCell' = true) : (store ⟨b, i, none⟩ v).run P w = .ok () (w.setCell ⟨b, i, none⟩ v) := by
  rw [run_store P w _ _ _ hv]
  simp [World.cell?, World.frozen?, hb, hi]

theorem cells_one {v : Value} (h : v.oneCell' = true) : v.cells = #[v] := by cases v <;> simp_all [Value.oneCell', Value.cells]

theorem o_store1 {t ty : TypeId} {d : Option Tmp} {pos : String} {af : Array Edge} {g : Option (Nat × Bool)} {x y : Operand} {b i : Nat} {tb : TypeId} {cs : Array Value} {r : List HP} {v : Value} {K : Act → World → Prop} [hh : Has b l (.cells cs tb) r]
    (hd : d = none) (hz : sizeIs P t 1) (hx : ev ts x = some (.pointer (some ⟨b, i, none⟩))) (hy : ev ts y = some v) (hv : v.oneCell' = true) (hi : i < cs.size)
    (h : At E n D ts (blk b tb (cs.setIfInBounds i v) :: r) K) : At E n D ts l (fun a w => (Oper.mk d (.store t x y) ty pos af g).wp P a w K Q) := fun a w f hw => by
  subst hd
  have hb := (hw.ob hh.sel).1
  have : (execOp a.eval ⟨none, .store t x y, ty, pos, af, g⟩).run P w = .ok .skip (w.setCell ⟨b, i, none⟩ v) := by
    simp [execOp, f.eval hx, f.eval hy, Instr.storeAt, Instr.sureAddr, storeVar, run_sizeIs hz, cells_one hv, storeCells, add_plain, run_store1 hb hi hv]
  unfold Oper.wp
  rw [this]
  exact h _ _ f (hw.store hh.sel)

/-- several cells written -/
def setRow (cs : Array Value) (i : Nat) : List Value → Array Value
  | [] => cs
  | v :: vs => setRow (cs.setIfInBounds i v) (i + 1) vs
theorem setRow_size : ∀ (vs : List Value) (cs : Array Value) (i : Nat), (setRow cs i vs).size = cs.size
  | [], _, _ => rfl
  | v :: vs, cs, i => by simp [setRow, setRow_size vs]

theorem run_storeCells {b : Nat} {t : TypeId} : ∀ (vs : List Value) (w : World) (cs : Array Value) (o i : Nat), w.heap[b]? = some (.cells cs t) → o + i + vs.length ≤ cs.size → (∀ v ∈ vs, v.oneCell' = true) →
    ∃ w', (storeCells ⟨b, o, none⟩ vs i).run P w = .ok () w' ∧ w'.heap[b]? = some (.cells (setRow cs (o + i) vs) t) ∧ w'.os = w.os ∧ w'.tape = w.tape ∧ w'.output = w.output ∧ w'.heap.size = w.heap.size ∧ (∀ k, k ≠ b → w'.heap[k]? = w.heap[k]?)
  | [], w, cs, o, i, hb, _, _ => ⟨w, by simp [storeCells], by simpa [setRow] using hb, rfl, rfl, rfl, rfl, fun _ _ => rfl⟩
  | v :: vs, w, cs, o, i, hb, hl, hv => by
    simp only [List.length_cons] at hl
    have h1 := run_store1 (P := P) (i := o + i) hb (by omega) (hv v (by simp))
    have hb' : (w.setCell ⟨b, o + i, none⟩ v).heap[b]? = some (.cells (cs.setIfInBounds (o + i) v) t) := by simp [World.setCell, hb, Array.getElem?_modify]
    obtain ⟨w', hr, h2, h3, h4, h5, h6, h7⟩ := run_storeCells vs _ _ o (i + 1) hb' (by simp; omega) (fun u hu => hv u (by simp [hu]))
    refine ⟨w', ?_, ?_, h3, h4, h5, by rw [h6]; simp [World.setCell], fun k hk => (h7 k hk).trans (Below.heap_setCell _ _ _ _ (by simpa using hk))⟩
    · simp [storeCells, add_plain, h1, hr]
    · rw [h2]; simp [setRow, Nat.add_assoc]

theorem o_storeN {t ty : TypeId} {d : Option Tmp} {pos : String} {af : Array Edge} {g : Option (Nat × Bool)} {x y : Operand} {b i m : Nat} {tb : TypeId} {cs : Array Value} {r : List HP} {vs : List Value} {K : Act → World → Prop} [hh : Has b l (.cells cs tb) r]
    (hd : d = none) (hz : sizeIs P t m) (hx : ev ts x = some (.pointer (some ⟨b, i, none⟩))) (hy : ev ts y = some (.agg vs.toArray)) (hm : vs.length = m) (hv : ∀ v ∈ vs, v.oneCell' = true) (hi : i + vs.length ≤ cs.size)
    (h : At E n D ts (blk b tb (setRow cs i vs) :: r) K) : At E n D ts l (fun a w => (Oper.mk d (.store t x y) ty pos af g).wp P a w K Q) := fun a w f hw => by
  subst hd
  subst hm
  have h0 := hw.sel hh.sel
  have hb := (hw.ob hh.sel).1
  obtain ⟨w', hr, h2, h3, h4, h5, h6, h7⟩ := run_storeCells (P := P) vs w cs i 0 hb (by simpa using hi) hv
  have : (execOp a.eval ⟨none, .store t x y, ty, pos, af, g⟩).run P w = .ok .skip w' := by
    simp [execOp, f.eval hx, f.eval hy, Instr.storeAt, Instr.sureAddr, storeVar, run_sizeIs hz, Value.cells, hr]
  unfold Oper.wp
  rw [this]
  exact h _ _ f (Holds.set h0 h3 h4 h5 h6 (by simpa using h2) h7)

/-! ### code -/

theorem At.seq {x y : Code} (h : At E n D ts l (x.wp P (Exit.then (y.wp P Q) Q))) : At E n D ts l ((Code.seq x y).wp P Q) := fun a w f hw => wp_seq (h a w f hw)
theorem At.skip (h : At E n D ts l (Q .normal)) : At E n D ts l (Code.skip.wp P Q) := fun a w f hw => wp_skip (h a w f hw)
theorem At.exit {id : Nat} (h : At E n D ts l (Q (.exit id))) : At E n D ts l ((Code.exit id).wp P Q) := fun a w f hw => wp_exit (h a w f hw)
theorem At.ret (h : At E n D ts l (Q .ret)) : At E n D ts l (Code.ret.wp P Q) := fun a w f hw => wp_ret (h a w f hw)
theorem At.label {k : Nat} (h : At E n D ts l (Q .normal)) : At E n D ts l ((Code.label k).wp P Q) := fun a w f hw => wp_label (h a w f hw)
theorem At.goto {k : Nat} (h : At E n D ts l (Q (.goto k))) : At E n D ts l ((Code.goto k).wp P Q) := fun a w f hw => wp_goto (h a w f hw)
theorem At.block {id : Nat} {c : Code} (h : At E n D ts l (c.wp P (Exit.inBlock id Q))) : At E n D ts l ((Code.block id c).wp P Q) := fun a w f hw => wp_block (h a w f hw)
theorem At.region {id : Nat} {os : List Oper} (h : At E n D ts l (wpList P os.toArray Q os)) : At E n D ts l ((Code.region id os.toArray false).wp P Q) := fun a w f hw => wp_region_lit (h a w f hw)
theorem At.cond {c : Operand} {x y : Code} {b : Bool} (hc : ev ts c = some (.bool b)) (ht : b = true → At E n D ts l (x.wp P Q)) (hf : b = false → At E n D ts l (y.wp P Q)) : At E n D ts l ((Code.cond c x y).wp P Q) := fun a w f hw =>
  wp_cond_split (f.eval hc) (fun h => ht h a w f hw) (fun h => hf h a w f hw)
theorem At.condD {c : Operand} {x y : Code} {p : Prop} [Decidable p] (hc : ev ts c = some (.bool (decide p))) (ht : p → At E n D ts l (x.wp P Q)) (hf : ¬p → At E n D ts l (y.wp P Q)) : At E n D ts l ((Code.cond c x y).wp P Q) :=
  At.cond hc (fun h => ht (of_decide_eq_true h)) (fun h => hf (of_decide_eq_false h))
theorem At.condT {c : Operand} {x y : Code} (hc : ev ts c = some (.bool true)) (h : At E n D ts l (x.wp P Q)) : At E n D ts l ((Code.cond c x y).wp P Q) := fun a w f hw => wp_cond_true (f.eval hc) (h a w f hw)
theorem At.condF {c : Operand} {x y : Code} (hc : ev ts c = some (.bool false)) (h : At E n D ts l (y.wp P Q)) : At E n D ts l ((Code.cond c x y).wp P Q) := fun a w f hw => wp_cond_false (f.eval hc) (h a w f hw)

theorem least_of {p : Nat → Prop} (h : ∃ m, p m) : ∃ m, p m ∧ ∀ k, p k → m ≤ k := by
  obtain ⟨m, hm⟩ := h
  induction m using Nat.strongRecOn with
  | _ m ih =>
    by_cases hlt : ∃ k, k < m ∧ p k
    · obtain ⟨k, hk, hp⟩ := hlt
      exact ih k hk hp
    · exact ⟨m, hm, fun k hk => Nat.le_of_not_lt fun hl => hlt ⟨k, hl, hk⟩⟩

/-- what a round of a loop comes to -/
def Round {X : Type} (n : Nat) (D : List Deferred) (E : Env) (T : X → List (Nat × Value)) (L : X → List HP) (I : X → Prop) (μ : X → Nat) (m : Nat) (Q : Exit → Act → World → Prop) : Exit → Act → World → Prop
  | .normal, a, w => ∃ x, I x ∧ μ x < m ∧ Fits n D (T x) a ∧ Holds E w (L x)
  | e, a, w => Q e a w

theorem At.loop {X : Type} {c : Code} (T : X → List (Nat × Value)) (L : X → List HP) (I : X → Prop) (μ : X → Nat) (x0 : X) (h0 : I x0) (hs : Sub (T x0) ts) (hl : Ent l (L x0))
    (h : ∀ x, I x → At E n D (T x) (L x) (c.wp P (Round n D E T L I μ (μ x) Q))) : At E n D ts l ((Code.loop c).wp P Q) := fun a w f hw => by
  classical
  let J : Act → World → Nat → Prop := fun a w m => ∃ x, I x ∧ μ x = m ∧ Fits n D (T x) a ∧ Holds E w (L x)
  have key : ∀ m a w, J a w m → (Code.loop c).wp P Q a w := by
    intro m a w hJ
    refine wp_loop (fun a w => ∃ m, J a w m) (fun a w => if h : ∃ m, J a w m then Classical.choose (least_of h) else 0) ⟨m, hJ⟩ ?_
    intro a w hex
    obtain ⟨hm, hmin⟩ := Classical.choose_spec (least_of hex)
    obtain ⟨x, hI, hμ, hf, hH⟩ := hm
    refine Code.wp_mono ?_ (h x hI a w hf hH)
    intro e a' w' hq
    cases e with
    | normal =>
      obtain ⟨x', hI', hlt, hf', hH'⟩ := hq
      have hex' : ∃ m, J a' w' m := ⟨μ x', x', hI', rfl, hf', hH'⟩
      refine ⟨hex', ?_⟩
      rw [dif_pos hex', dif_pos hex]
      refine Nat.lt_of_le_of_lt ((Classical.choose_spec (least_of hex')).2 _ ⟨x', hI', rfl, hf', hH'⟩) ?_
      rw [← hμ]; exact hlt
    | _ => exact hq
  exact key (μ x0) a w ⟨x0, h0, rfl, f.sub hs, hw.ent hl⟩

theorem At.round {X : Type} {T : X → List (Nat × Value)} {L : X → List HP} {I : X → Prop} {μ : X → Nat} {m : Nat} (x : X) (hI : I x) (hm : μ x < m) (hs : Sub (T x) ts) (hl : Ent l (L x)) : At E n D ts l (Round n D E T L I μ m Q .normal) :=
  fun _ _ f hw => ⟨x, hI, hm, f.sub hs, hw.ent hl⟩

/-! ### where code ends -/
theorem At.then {K : Act → World → Prop} (h : At E n D ts l K) : At E n D ts l (Exit.then K Q .normal) := h
theorem At.thenExit {K : Act → World → Prop} {id : Nat} (h : At E n D ts l (Q (.exit id))) : At E n D ts l (Exit.then K Q (.exit id)) := h
theorem At.thenRet {K : Act → World → Prop} (h : At E n D ts l (Q .ret)) : At E n D ts l (Exit.then K Q .ret) := h
theorem At.thenGoto {K : Act → World → Prop} {k : Nat} (h : At E n D ts l (Q (.goto k))) : At E n D ts l (Exit.then K Q (.goto k)) := h
theorem At.inBlock {id : Nat} (h : At E n D ts l (Q .normal)) : At E n D ts l (Exit.inBlock id Q .normal) := h
theorem At.inBlockRet {id : Nat} (h : At E n D ts l (Q .ret)) : At E n D ts l (Exit.inBlock id Q .ret) := h
theorem At.inBlockHit {id : Nat} (h : At E n D ts l (Q .normal)) : At E n D ts l (Exit.inBlock id Q (.exit id)) := fun a w f hw => by simpa [Exit.inBlock] using h a w f hw
theorem At.inBlockMiss {id k : Nat} (hne : Nat.beq k id = false) (h : At E n D ts l (Q (.exit k))) : At E n D ts l (Exit.inBlock id Q (.exit k)) := fun a w f hw => by
  have : k ≠ id := fun e => by subst e; simp at hne
  simpa [Exit.inBlock, this] using h a w f hw
theorem At.inBlockGoto {id k : Nat} (h : At E n D ts l (Q (.goto k))) : At E n D ts l (Exit.inBlock id Q (.goto k)) := h
theorem At.roundExit {X : Type} {T : X → List (Nat × Value)} {L : X → List HP} {I : X → Prop} {μ : X → Nat} {m id : Nat} (h : At E n D ts l (Q (.exit id))) : At E n D ts l (Round n D E T L I μ m Q (.exit id)) := h
theorem At.roundRet {X : Type} {T : X → List (Nat × Value)} {L : X → List HP} {I : X → Prop} {μ : X → Nat} {m : Nat} (h : At E n D ts l (Q .ret)) : At E n D ts l (Round n D E T L I μ m Q .ret) := h

/-! ### functions -/

/-- a contract: with the facts 'pre' a call returns v with the facts m, as R says; all else stands -/
def Does (P : Program) (G : Env → Prop) (f : FuncId) (args : Array Value) (pre : List HP) (R : Value → List HP → Prop) : Prop :=
  ∀ E w fr, G E → Holds E w (pre ++ fr) → Calls P f args w fun e w' => ∃ v m, e = .returned v ∧ R v m ∧ Holds E w' (m ++ fr)

theorem Does.mono {G : Env → Prop} {f : FuncId} {args : Array Value} {pre : List HP} {R R' : Value → List HP → Prop} (h : Does P G f args pre R) (hR : ∀ v m, R v m → ∃ m', R' v m' ∧ Ent m m') : Does P G f args pre R' :=
  fun E w fr hE hw => (h E w fr hE hw).mono fun _ _ ⟨v, m, he, hr, hh⟩ => let ⟨m', hr', hm⟩ := hR v m hr; ⟨v, m', he, hr', hh.ent (hm.append fr)⟩

/-- what a body must come to -/
def Ends (P : Program) (fn : Func) (E : Env) (fr : List HP) (R : Value → List HP → Prop) : Exit → Act → World → Prop :=
  bodyPost P fn fun e w' => ∃ v m, e = .returned v ∧ R v m ∧ Holds E w' (m ++ fr)

/-- the slots of the arguments -/
def argSlots : Nat → List Value → List (Nat × Value)
  | _, [] => []
  | i, v :: vs => (i, v) :: argSlots (i + 1) vs
theorem argSlots_get : ∀ (vs : List Value) (i : Nat) (j : Nat) (v : Value), look j (argSlots i vs) = some v → i ≤ j ∧ vs[j - i]? = some v
  | [], _, _, _, h => by simp [argSlots, look] at h
  | u :: vs, i, j, v, h => by
    simp only [argSlots, look] at h
    cases hb : Nat.beq j i with
    | true =>
      rw [hb] at h
      simp at h
      have := Nat.eq_of_beq_eq_true hb
      subst this
      exact ⟨Nat.le_refl _, by simpa using h⟩
    | false =>
      rw [hb] at h
      obtain ⟨h1, h2⟩ := argSlots_get vs (i + 1) j v h
      refine ⟨by omega, ?_⟩
      rw [show j - i = (j - (i + 1)) + 1 by omega]
      simpa using h2

theorem Does.body {G : Env → Prop} {f : FuncId} {fn : Func} {c : Code} {args : List Value} {pre : List HP} {R : Value → List HP → Prop} (hf : P.funcs[f]? = some fn) (hb : fn.body = some c) (hn : Nat.ble args.length fn.ntmps = true)
    (h : ∀ E fr, G E → At E fn.ntmps [] (argSlots 0 args) (pre ++ fr) (c.wp P (Ends P fn E fr R))) : Does P G f args.toArray pre R := by
  intro E w fr hE hw
  refine calls_of_wp hf hb (h E fr hE _ _ ⟨?_, rfl, ?_⟩ hw)
  · have := Nat.le_of_ble_eq_true hn
    simp; omega
  · intro i v hi
    obtain ⟨_, h2⟩ := argSlots_get args 0 i v hi
    rw [Nat.sub_zero] at h2
    have hlt : i < args.length := (List.getElem?_eq_some_iff.1 h2).1
    simp [Array.getElem?_append, hlt, (List.getElem?_eq_some_iff.1 h2).2]

theorem At.end0 {fn : Func} {fr : List HP} {R : Value → List HP → Prop} (m : List HP) (hr : fn.results = #[]) (hR : R (.tuple #[]) m) (hm : Ent l (m ++ fr)) : At E n [] ts l (Ends P fn E fr R .normal) := fun _ _ f hw =>
  ⟨f.defers, _, results_none hr _ _ _, _, m, rfl, hR, hw.ent hm⟩
theorem At.ret0 {fn : Func} {fr : List HP} {R : Value → List HP → Prop} (m : List HP) (hr : fn.results = #[]) (hR : R (.tuple #[]) m) (hm : Ent l (m ++ fr)) : At E n [] ts l (Ends P fn E fr R .ret) := fun _ _ f hw =>
  ⟨f.defers, _, results_none hr _ _ _, _, m, rfl, hR, hw.ent hm⟩
theorem getD_of {a : Act} {i : Nat} {v : Value} (h : a.tmps[i]? = some v) : a.tmps.getD i undef = v := by simp [h]
theorem At.ret1 {fn : Func} {fr : List HP} {R : Value → List HP → Prop} {i : Nat} {v : Value} (m : List HP) (hr : fn.results = #[.tmp i]) (hv : look i ts = some v) (hR : R v m) (hm : Ent l (m ++ fr)) : At E n [] ts l (Ends P fn E fr R .ret) := fun _ _ f hw =>
  ⟨f.defers, v, by rw [results_tmp hr, getD_of (f.get i v hv)], _, m, rfl, hR, hw.ent hm⟩
theorem At.ret2 {fn : Func} {fr : List HP} {R : Value → List HP → Prop} {i j : Nat} {u v : Value} (m : List HP) (hr : fn.results = #[.tmp i, .tmp j]) (hu : look i ts = some u) (hv : look j ts = some v) (hR : R (.tuple #[u, v]) m) (hm : Ent l (m ++ fr)) : At E n [] ts l (Ends P fn E fr R .ret) := fun _ _ f hw =>
  ⟨f.defers, _, by rw [results_tmp2 hr, getD_of (f.get i u hu), getD_of (f.get j v hv)], _, m, rfl, hR, hw.ent hm⟩
theorem results_tmp3 {fn : Func} {i j k : Tmp} (h : fn.results = #[.tmp i, .tmp j, .tmp k]) (tmps : Array Value) (P : Program) (w : World) :
    (results fn tmps).run P w = .ok (.tuple #[tmps.getD i undef, tmps.getD j undef, tmps.getD k undef]) w := by
  simp [results, h]
theorem At.ret3 {fn : Func} {fr : List HP} {R : Value → List HP → Prop} {i j k : Nat} {u v x : Value} (m : List HP) (hr : fn.results = #[.tmp i, .tmp j, .tmp k]) (hu : look i ts = some u) (hv : look j ts = some v) (hx : look k ts = some x) (hR : R (.tuple #[u, v, x]) m) (hm : Ent l (m ++ fr)) : At E n [] ts l (Ends P fn E fr R .ret) := fun _ _ f hw =>
  ⟨f.defers, _, by rw [results_tmp3 hr, getD_of (f.get i u hu), getD_of (f.get j v hv), getD_of (f.get k x hx)], _, m, rfl, hR, hw.ent hm⟩

/-! ### calls -/

def evs (ts : List (Nat × Value)) : List Operand → Option (List Value)
  | [] => some []
  | x :: xs => match ev ts x, evs ts xs with
    | some v, some vs => some (v :: vs)
    | _, _ => none
theorem evs_eval {a : Act} (k : Knows ts a) : ∀ {xs : List Operand} {vs : List Value}, evs ts xs = some vs → xs.map a.eval = vs
  | [], vs, h => by simp [evs] at h; subst h; rfl
  | x :: xs, vs, h => by
    simp only [evs] at h
    split at h
    · rename_i v vs' h1 h2
      injection h with h
      subst h
      simp [k.eval h1, evs_eval k h2]
    · cases h

/-- has a function a body? -/
def hasBody (P : Program) (f : FuncId) : Bool := match P.funcs[f]? with
  | some fn => fn.body.isSome && !(fn.name == "runtime.NumGoroutine")
  | none => false

theorem run_callFunc {f : FuncId} (hb : hasBody P f = true) (args : Array Value) (w : World) : (callFunc f args).run P w = .ok (.enter f args) w := by
  unfold hasBody at hb
  split at hb
  · rename_i fn hf
    simp only [Bool.and_eq_true, Bool.not_eq_true'] at hb
    unfold callFunc
    simp only [Sem.run_bind, run_program, Result.andThen_ok, hf]
    rw [hb.2]
    simp only [Bool.false_eq_true, if_false]
    have : fn.body.isNone = false := by cases h : fn.body <;> simp_all
    rw [this]
    rfl
  · cases hb

theorem wp_enter {G : Env → Prop} {o : Oper} {f : FuncId} {args : Array Value} {pre fr : List HP} {R : Value → List HP → Prop} {K : Act → World → Prop} {a : Act} {w : World} (hr : (execOp a.eval o).run P w = .ok (.enter f args) w) (hE : G E) (hs : Does P G f args pre R) (hw : Holds E w (pre ++ fr))
    (hk : ∀ v m w', R v m → Holds E w' (m ++ fr) → K (a.put o.dst v) w') : o.wp P a w K Q := by
  unfold Oper.wp
  rw [hr]
  refine (hs E w fr hE hw).mono fun e w' ⟨v, m, he, hR, hm⟩ => ?_
  subst he
  exact hk v m w' hR hm

/-- a call of a function by its contract -/
theorem o_call {G : Env → Prop} {i : Nat} {ty : TypeId} {pos : String} {af : Array Edge} {g : Option (Nat × Bool)} {f : FuncId} {xs : List Operand} {at_ : Array TypeId} {args : List Value} {pre fr : List HP} {R : Value → List HP → Prop} {K : Act → World → Prop} (hi : Nat.blt i n = true)
    (hb : hasBody P f = true) (hx : evs ts xs = some args) (hE : G E) (hs : Does P G f args.toArray pre R) (hl : Ent l (pre ++ fr)) (h : ∀ v m, R v m → At E n D ((i, v) :: ts) (m ++ fr) K) :
    At E n D ts l (fun a w => (Oper.mk (some i) (.call { callee := .value (.func f), args := xs.toArray, argTypes := at_ }) ty pos af g).wp P a w K Q) := fun a w ft hw => by
  refine wp_enter (f := f) (args := args.toArray) ?_ hE hs (hw.ent hl) fun v m w' hR hm => h v m hR _ w' (ft.put i (Nat.le_of_ble_eq_true hi) v) hm
  have := evs_eval ft.knows hx
  simp [execOp, resolve, Deferred.ofValue, Act.eval, invoke, this, run_callFunc hb]
theorem o_callN {G : Env → Prop} {ty : TypeId} {pos : String} {af : Array Edge} {g : Option (Nat × Bool)} {f : FuncId} {xs : List Operand} {at_ : Array TypeId} {args : List Value} {pre fr : List HP} {R : Value → List HP → Prop} {K : Act → World → Prop}
    (hb : hasBody P f = true) (hx : evs ts xs = some args) (hE : G E) (hs : Does P G f args.toArray pre R) (hl : Ent l (pre ++ fr)) (h : ∀ v m, R v m → At E n D ts (m ++ fr) K) :
    At E n D ts l (fun a w => (Oper.mk none (.call { callee := .value (.func f), args := xs.toArray, argTypes := at_ }) ty pos af g).wp P a w K Q) := fun a w ft hw => by
  refine wp_enter (f := f) (args := args.toArray) ?_ hE hs (hw.ent hl) fun v m w' hR hm => h v m hR _ w' ft hm
  have := evs_eval ft.knows hx
  simp [execOp, resolve, Deferred.ofValue, Act.eval, invoke, this, run_callFunc hb]
/-- a call of a function value -/
theorem o_callV {G : Env → Prop} {i : Nat} {ty : TypeId} {pos : String} {af : Array Edge} {g : Option (Nat × Bool)} {x : Operand} {f : FuncId} {first captured : Array Value} {xs : List Operand} {at_ : Array TypeId} {args : List Value} {pre fr : List HP} {R : Value → List HP → Prop} {K : Act → World → Prop} (hi : Nat.blt i n = true)
    (hv : ev ts x = some (.func (.func f) first captured)) (hb : hasBody P f = true) (hx : evs ts xs = some args) (hE : G E) (hs : Does P G f (first ++ args.toArray ++ captured) pre R) (hl : Ent l (pre ++ fr)) (h : ∀ v m, R v m → At E n D ((i, v) :: ts) (m ++ fr) K) :
    At E n D ts l (fun a w => (Oper.mk (some i) (.call { callee := .value x, args := xs.toArray, argTypes := at_ }) ty pos af g).wp P a w K Q) := fun a w ft hw => by
  refine wp_enter (f := f) (args := first ++ args.toArray ++ captured) ?_ hE hs (hw.ent hl) fun v m w' hR hm => h v m hR _ w' (ft.put i (Nat.le_of_ble_eq_true hi) v) hm
  have := evs_eval ft.knows hx
  simp [execOp, resolve, Deferred.ofValue, ft.eval hv, invoke, this, run_callFunc hb]
end
end Go.SL
