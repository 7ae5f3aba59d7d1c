/- Deferred calls and recover; structs that are built. -/
import Derived.Test.YtmeegfamopaljaaGreatDoorEdI
import Derived.Recover
import Derived.Test.YtmeegfamopaljaaGreatDoorEdA
import Derived.Laws.BitsAllLaws
import Derived.Laws.BitsLemmas
import Derived.WalkKit
namespace Go.SL
open Go Go.RowKit
section
variable {P : Program} {G : Env → Prop} {E : Env} {n : Nat} {D : List Deferred} {ts : List (Nat × Value)} {l : List HP} {ops : Array Oper} {Q : Exit → Act → World → Prop} {rest : List Oper} {i : Nat} {ty : TypeId} {pos : String} {af : Array Edge} {g : Option (Nat × Bool)}
def jz (P : Program) : List Field → Option (List (Nat × Nat))
 | [] => some []
 | f :: fs => match P.info? f.type, jz P fs with
  | some i, some r => some ((f.offset, i.size) :: r)
  | _, _ => none
theorem nU {w : World} : ∀ {fs : List Field} {pl : List (Nat × Nat)}, jz P fs = some pl → (fs.mapM fun f => (do pure (f.offset, ← sizeOf f.type) : Sem (Nat × Nat))).run P w = .ok pl w
 | [], pl, h => by simp [jz] at h; subst h; simp
 | f :: fs, pl, h => by
  simp only [jz] at h
  split at h
  · rename_i i r hi hr
    injection h with h
    subst h
    have hsz : (sizeOf f.type).run P w = .ok i.size w := by simp [sizeOf, typeInfo, hi]
    rw [List.mapM_cons]
    simp only [Sem.run_bind, hsz, Result.andThen_ok, Sem.run_pure, nU hr]
  · cases h
theorem bg {t : TypeId} {fs : Array Field} {pl : List (Nat × Nat)} {z : Value} {ps : List (Nat × Operand)} {vs : List Value} {cs : Array Value} (hu : P.underlying t = some (.struct fs)) (hp : jz P fs.toList = some pl) (hz : fq P t z)
 (hx : ou ts (ps.map (·.2)) = some vs) (hf : Instr.fill (pl.toArray[·]?) z.cells ((ps.map (·.1)).zip vs) = some cs) : Ev P ts (.build t ps.toArray) (.agg cs) Any := by
 intro a w _ _ _ _ _ kn _
 have he : (ps.toArray.map fun p => (p.1, a.eval p.2)).toList = (ps.map (·.1)).zip vs := by
  have := cF kn hx
  rw [← this]
  simp
  clear hx hf this
  induction ps with
  | nil => rfl
  | cons p ps ih => simp; exact ih
 simp only [execOp, Instr.build, Sem.run_bind, e9 hz, run_underlying hu, Result.andThen_ok, Array.mapM_eq_mapM_toList, Sem.run_map, nU hp, he]
 simp only [Result.andThen_ok, hf, Sem.run_pure]
def DoesD (P : Program) (G : Env → Prop) (f : FuncId) (args : Array Value) (u u' : FrameMode) (pre : List HP) (R : List HP → Prop) : Prop :=
 ∀ E w fr, G E → Holds E w (pre ++ fr) → CallsD P f args u w fun e u'' w' => e = .returned (.tuple #[]) ∧ u'' = u' ∧ ∃ m, R m ∧ Holds E w' (m ++ fr)
def yd (P : Program) (fn : Func) (E : Env) (fr : List HP) (R : Value → List HP → Prop) : Exit → Act → World → Prop :=
 bodyPostD P fn fun e w' => ∃ v m, e = .returned v ∧ R v m ∧ Holds E w' (m ++ fr)
theorem kC {f : FuncId} {fn : Func} {c : Code} {args : List Value} {pre : List HP} {R : Value → List HP → Prop} (hf : P.funcs[f]? = some fn) (hb : fn.body = some c) (hn : Nat.ble args.length fn.ntmps = true)
 (h : ∀ E fr, G E → At E fn.ntmps [] (dU 0 args) (pre ++ fr) (c.wp P (yd P fn E fr R))) : Does P G f args.toArray pre R := by
 intro E w fr hE hw
 refine calls_of_wp_defers hf hb (h E fr hE _ _ ⟨?_, rfl, ?_⟩ hw)
 · have := Nat.le_of_ble_eq_true hn
   simp; omega
 · intro i v hi
   obtain ⟨_, h2⟩ := dN args 0 i v hi
   rw [Nat.sub_zero] at h2
   have hlt : i < args.length := (List.getElem?_eq_some_iff.1 h2).1
   simp [Array.getElem?_append, hlt, (List.getElem?_eq_some_iff.1 h2).2]
theorem qm {x : Operand} {f : FuncId} {first cap : Array Value} {K : Act → World → Prop} (hx : ev ts x = some (.func (.func f) first cap)) (h : At E n ({ target := .fn (.func f) cap, args := first } :: D) ts l K) :
 At E n D ts l (fun a w => (Oper.mk none (.defer { callee := .value x, args := #[], argTypes := #[] }) ty pos af g).wp P a w K Q) := fun a w ft hw => by
 have hr : (execOp a.eval (Oper.mk none (.defer { callee := .value x, args := #[], argTypes := #[] }) ty pos af g)).run P w = .ok (.defer { target := .fn (.func f) cap, args := first }) w := by
  simp [execOp, resolve, Deferred.ofValue, ft.eval hx]
 show (Oper.mk none (.defer { callee := .value x, args := #[], argTypes := #[] }) ty pos af g).wp P a w K Q
 unfold Oper.wp
 rw [hr]
 exact h _ w ⟨ft.size, by simp [Act.put, ft.defers], fun i v hi => ft.get i v hi⟩ hw
theorem At.leave {fn : Func} {fr l' : List HP} {R : Value → List HP → Prop} {f : FuncId} {first cap : Array Value} {pre : List HP} {Rd : List HP → Prop} {u' : FrameMode} {e : Exit} (he : e = .ret ∨ e = .normal) (hu : settle u' = .returning) (hb : eA P f = true) (hE : G E)
 (hs : DoesD P G f (first ++ cap) .returning u' pre Rd) (hl : Ent l (pre ++ l')) (h : ∀ m, Rd m → At E n [] ts (m ++ l') (Ends P fn E fr R .ret)) : At E n [{ target := .fn (.func f) cap, args := first }] ts l (yd P fn E fr R e) := fun a w ft hw => by
 have key : Leaves P fn a.tmps (fun e w' => ∃ v m, e = .returned v ∧ R v m ∧ Holds E w' (m ++ fr)) a.defers .returning w := by
  rw [ft.defers]
  refine leaves_cons (f := f) (args := first ++ cap) (by simp) (by simp [invoke, cN hb]) ((hs E w l' hE (hw.ent hl)).mono ?_)
  rintro e u'' w' ⟨rfl, rfl, m, hm, hh⟩
  simp only [hu]
  obtain ⟨_, v, hr, hx⟩ := h m hm { a with defers := [] } w' ⟨ft.size, rfl, ft.get⟩ hh
  exact ⟨v, hr, hx⟩
 rcases he with rfl | rfl <;> exact key
theorem lW {fn : Func} {fr l' : List HP} {R : Value → List HP → Prop} {f : FuncId} {first cap : Array Value} {pre : List HP} {Rd : List HP → Prop} {u' : FrameMode} {c : List PanicEntry} (hu : settle u' = .returning) (hb : eA P f = true) (hE : G E)
 (hs : DoesD P G f (first ++ cap) (.panicking c) u' pre Rd) (hl : Ent l (pre ++ l')) (h : ∀ m, Rd m → At E n [] ts (m ++ l') (Ends P fn E fr R .ret)) : At E n [{ target := .fn (.func f) cap, args := first }] ts l (yd P fn E fr R (.panic c)) := fun a w ft hw => by
 show Leaves P fn a.tmps (fun e w' => ∃ v m, e = .returned v ∧ R v m ∧ Holds E w' (m ++ fr)) a.defers (.panicking c) w
 rw [ft.defers]
 refine leaves_cons (f := f) (args := first ++ cap) (by simp) (by simp [invoke, cN hb]) ((hs E w l' hE (hw.ent hl)).mono ?_)
 rintro e u'' w' ⟨rfl, rfl, m, hm, hh⟩
 simp only [hu]
 obtain ⟨_, v, hr, hx⟩ := h m hm { a with defers := [] } w' ⟨ft.size, rfl, ft.get⟩ hh
 exact ⟨v, hr, hx⟩
theorem DoesD.recover {f : FuncId} {fn : Func} {c : Code} {id d : Nat} {args : List Value} {u u' : FrameMode} {v : Value} {pre : List HP} {R : List HP → Prop} (hf : P.funcs[f]? = some fn)
 (hb : fn.body = some (.seq (.region id #[⟨some d, .call { callee := .builtin .recover, args := #[], argTypes := #[] }, ty, pos, af, none⟩] false) c)) (hn : Nat.ble args.length fn.ntmps = true) (hd : Nat.blt d fn.ntmps = true)
 (hu : (u = .returning ∧ u' = .returning ∧ v = .nilIface) ∨ ∃ older, u = .panicking ({ v := v, recovered := false } :: older) ∧ u' = .panicking ({ v := v, recovered := true } :: older))
 (h : ∀ E fr, G E → At E fn.ntmps [] ((d, v) :: dU 0 args) (pre ++ fr) (c.wp P (Ends P fn E fr fun v m => v = .tuple #[] ∧ R m))) : DoesD P G f args.toArray u u' pre R := by
 intro E w fr hE hw
 refine callsD_of_wpS hf hb fun c₀ cs hc => ?_
 have hfit : Fits fn.ntmps [] (dU 0 args) { tmps := args.toArray ++ Array.replicate (fn.ntmps - args.toArray.size) undef, defers := [] } := by
  refine ⟨?_, rfl, ?_⟩
  · have := Nat.le_of_ble_eq_true hn
    simp; omega
  · intro i v hi
    obtain ⟨_, h2⟩ := dN args 0 i v hi
    rw [Nat.sub_zero] at h2
    have hlt : i < args.length := (List.getElem?_eq_some_iff.1 h2).1
    simp [Array.getElem?_append, hlt, (List.getElem?_eq_some_iff.1 h2).2]
 have hk := h E fr hE _ w (hfit.put d (Nat.le_of_ble_eq_true hd) v) hw
 have hrest : ∀ c₁ : Frame, c₁ = { c₀ with mode := u' } → c.wpS P (bodyPostS P fn c₀ cs fun e u'' w' => e = .returned (.tuple #[]) ∧ u'' = u' ∧ ∃ m, R m ∧ Holds E w' (m ++ fr)) (({ tmps := args.toArray ++ Array.replicate (fn.ntmps - args.toArray.size) undef, defers := [] } : Act).put (some d) v) (c₁ :: cs) w := by
  rintro c₁ rfl
  refine wpS_of_wp (Code.wp_mono ?_ hk)
  intro e a w' hq
  cases e with
  | normal => exact let ⟨h1, v, h2, v', m, h3, ⟨h4, h5⟩, h6⟩ := hq; ⟨h1, u', rfl, v, h2, by rw [h3, h4], rfl, m, h5, h6⟩
  | ret => exact let ⟨h1, v, h2, v', m, h3, ⟨h4, h5⟩, h6⟩ := hq; ⟨h1, u', rfl, v, h2, by rw [h3, h4], rfl, m, h5, h6⟩
  | panic c => exact let ⟨_, v', m, h3, _⟩ := hq; by cases h3
  | exit _ => exact hq.elim
  | goto _ => exact hq.elim
  | outgrown => exact let ⟨v', m, h3, _⟩ := hq; by cases h3
 apply wpS_seq
 apply wpS_region
 have hex : ∀ (a : Act) (w : World), (execOp a.eval ⟨some d, .call { callee := .builtin .recover, args := #[], argTypes := #[] }, ty, pos, af, none⟩).run P w = .ok .recover w := fun a w => by
  simp [execOp, resolve, invoke, builtin]
 simp only [List.size_toArray, List.length_cons, List.length_nil, Nat.zero_add, List.range_one, wpOpsS, List.getElem?_toArray, List.getElem?_cons_zero, Region.wanted, if_true, hex]
 rcases hu with ⟨rfl, rfl, rfl⟩ | ⟨older, rfl, rfl⟩
 · have hrec : recoverD (c₀ :: cs) = none := by simp [recoverD, hc]
   simp only [hrec, Exit.thenS]
   exact hrest c₀ (by cases c₀; simp_all)
 · have hrec : recoverD (c₀ :: cs) = some (v, { c₀ with mode := .panicking ({ v := v, recovered := true } :: older) } :: cs) := by simp [recoverD, hc]
   simp only [hrec, Exit.thenS]
   exact hrest _ Z
end
end Go.SL

namespace Go.SL
open Go Go.RowKit
section
variable {P : Program} {E : Env} {n : Nat} {D : List Deferred} {ts : List (Nat × Value)} {l : List HP} {ops : Array Oper} {Q : Exit → Act → World → Prop} {rest : List Oper} {i : Nat} {ty : TypeId} {pos : String} {af : Array Edge}
def gv (k : Bool) (v : Value) : Value := if k then v else undef
theorem L.bool {op : Op} {d : Bool} {φ : World → Prop} (hi : Nat.blt i n = true) (hev : Ev P ts op (.bool d) φ) (hφ : ∀ w, Holds E w l → φ w) (h : ∀ c : Bool, c = d → At E n D ((i, .bool c) :: ts) l (wpList P ops Q rest)) :
 At E n D ts l (wpList P ops Q (⟨some i, op, ty, pos, af, none⟩ :: rest)) := L.val hi hev hφ (h d rfl)
def AtT (E : Env) (n : Nat) (D : List Deferred) (T : Bool → List (Nat × Value)) (c : Bool) (l : List HP) (K : Act → World → Prop) : Prop := At E n D (T c) l K
theorem m7 {T : Bool → List (Nat × Value)} {K : Act → World → Prop} (c : Bool) (hT : ts = T c) (h : AtT E n D T c l K) : At E n D ts l K := by
 subst hT
 exact h
theorem L.g {T : Bool → List (Nat × Value)} {c : Bool} {op : Op} {v : Value} {φ : World → Prop} {j t : Nat} {b : Bool} (hi : Nat.blt i n = true) (ht : (ops[j]?).bind (·.dst) = some t) (hv : ∀ c, look t (T c) = some (.bool c)) (hev : Ev P (T b) op v φ) (hφ : ∀ w, Holds E w l → φ w)
 (h : At E n D ((i, gv (c == b) v) :: T c) l (wpList P ops Q rest)) : AtT E n D T c l (wpList P ops Q (⟨some i, op, ty, pos, af, some (j, b)⟩ :: rest)) := by
 unfold AtT
 by_cases hc : c = b
 · subst hc
   refine L.on Z ht (hv c) (qd hi hev hφ ?_)
   have : gv (c == c) v = v := by simp [gv]
   rwa [this] at h
 · have hcb : c = !b := by cases c <;> cases b <;> simp_all
   refine L.off Z hi Z ht (hv c) hcb ?_
   have : gv (c == b) v = undef := by simp [gv, hc]
   rwa [this] at h
theorem po {g : Option (Nat × Bool)} {f : FuncId} {xs : List Operand} {at_ : Array TypeId} {args : List Value} {b j : Nat} {tb : TypeId} {cs : Array Value} {u v : Value} {r : List HP} {φ : World → Prop} {K : Act → World → Prop} [hh : Has b l (.cells cs tb) r] (hi : Nat.blt i n = true) (hx : ou ts xs = some args) (hφ : ∀ w, Holds E w l → φ w)
 (hr : ∀ w, φ w → w.heap[b]? = some (.cells cs tb) → (callFunc f args.toArray).run P w = .ok (.value u) (w.setCell ⟨b, j, none⟩ v))
 (h : At E n D ((i, u) :: ts) (blk b tb (cs.setIfInBounds j v) :: r) K) : At E n D ts l (fun a w => (Oper.mk (some i) (.call { callee := .value (.func f), args := xs.toArray, argTypes := at_ }) ty pos af g).wp P a w K Q) := fun a w ft hw => by
 have h1 := cF ft.knows hx
 have : (execOp a.eval (Oper.mk (some i) (.call { callee := .value (.func f), args := xs.toArray, argTypes := at_ }) ty pos af g)).run P w = .ok (.value u) (w.setCell ⟨b, j, none⟩ v) := by
  simp [execOp, resolve, Deferred.ofValue, Act.eval, invoke, h1, hr w (hφ w hw) (hw.ob hh.sel).1]
 show (Oper.mk (some i) (.call { callee := .value (.func f), args := xs.toArray, argTypes := at_ }) ty pos af g).wp P a w K Q
 unfold Oper.wp
 rw [this]
 exact h _ _ (ft.put i (Nat.le_of_ble_eq_true hi) u) (hw.store hh.sel)
theorem uy {c x y : Operand} {b d : Bool} (hc : ev ts c = some (.bool b)) (hx : ev ts x = some (gv (b == true) (.bool d))) (hy : ev ts y = some (.bool false)) : Ev P ts (.pick c x y) (.bool (b && d)) Any := by
 have := aM (P := P) hc hx hy
 cases b <;> exact this
theorem xo {c x y : Operand} {b d : Bool} (hc : ev ts c = some (.bool b)) (hx : ev ts x = some (.bool true)) (hy : ev ts y = some (gv (b == false) (.bool d))) : Ev P ts (.pick c x y) (.bool (b || d)) Any := by
 have := aM (P := P) hc hx hy
 cases b <;> exact this
end
end Go.SL

namespace Go.Proofs.YtmeegfamopaljaaGreatDoor
open Go Go.RowKit Go.Deep
def cI (l : List Int) : List Value := l.map (Value.int .i64)
def aw (n : FK.Node) (v : Value) : List Value := [.int .i64 n.budget, .int .i64 n.close, .int .i64 n.beat, .int .i64 n.base, .int .i64 n.cap, .int .i64 n.jitter, v]
def bl : List FK.Node → List Value → List Value
 | n :: l, v :: vs => aw n v ++ bl l vs
 | _, _ => []
def Bl (w : World) (base : Nat) (v : Value) (l : List Int) : Prop := w.ownsRow base 3 1 v l.length (cI l)
structure OwnNodes (w : World) (base : Nat) (v : Value) (l : List FK.Node) (vs : List Value) : Prop where
 len : vs.length = l.length
 row : w.ownsRow base 46 7 v l.length (bl l vs)
 ints : ∀ (i : Nat) (n : FK.Node) (u : Value), l[i]? = some n → vs[i]? = some u → Bl w base u n.after
theorem ii : ∀ (l : List FK.Node) (vs : List Value) (n : FK.Node) (v : Value), vs.length = l.length → bl (l ++ [n]) (vs ++ [v]) = bl l vs ++ aw n v
 | [], [], n, v, _ => by simp [bl]
 | [], _ :: _, _, _, h => by simp at h
 | _ :: _, [], _, _, h => by simp at h
 | m :: l, u :: vs, n, v, h => by simp only [List.cons_append, bl, ii l vs n v (by simpa using h), List.append_assoc]
theorem iN : ∀ (l : List FK.Node) (vs : List Value) (i j : Nat) (n : FK.Node) (v : Value), vs.length = l.length → l[i]? = some n → vs[i]? = some v → j < 7 → (bl l vs)[i * 7 + j]? = (aw n v)[j]?
 | [], _, i, _, _, _, _, h, _, _ => by simp at h
 | _ :: _, [], i, _, _, _, h, _, _, _ => by simp at h
 | m :: l, u :: vs, 0, j, n, v, h, h1, h2, hj => by
  simp at h1 h2; subst h1; subst h2
  simp only [bl, Nat.zero_mul, Nat.zero_add]
  rw [List.getElem?_append_left (by simp [aw]; omega)]
 | m :: l, u :: vs, i + 1, j, n, v, h, h1, h2, hj => by
  simp only [List.getElem?_cons_succ] at h1 h2
  simp only [bl]
  rw [List.getElem?_append_right (by simp [aw]; omega)]
  have : (i + 1) * 7 + j - (aw m u).length = i * 7 + j := by simp [aw]; omega
  rw [this]
  exact iN l vs i j n v (by simpa using h) h1 h2 hj
theorem fy : (Tryz.prog.info? 3).map (fun i => (i.zero, i.size, i.bytes)) = some (some (.int .i64 0), 1, 8) := by kernel_rfl
theorem ny : (Tryz.prog.info? 46).map (fun i => (i.zero, i.size, i.bytes)) = some (some (.agg #[.int .i64 0, .int .i64 0, .int .i64 0, .int .i64 0, .int .i64 0, .int .i64 0, .slice none 0 0]), 7, 72) := by kernel_rfl
def lb (l : List FK.Node) : Prop := l.length * 72 ≤ 140737488355328 ∧ ∀ n ∈ l, n.after.length * 8 ≤ 140737488355328
theorem OwnNodes.nodesAt {w : World} {base : Nat} {A : Option Addr} {c : Nat} {l : List FK.Node} {vs : List Value} (h : OwnNodes w base (.slice A l.length c) l vs)
 (hr : ∀ n ∈ l, (i64 n.budget ∧ i64 n.close ∧ i64 n.beat ∧ i64 n.base ∧ i64 n.cap ∧ i64 n.jitter) ∧ ∀ x ∈ n.after, i64 x) : NodesAt w w.heap.size A c l := by
 have hrow := h.row
 rcases hrow.2 with ⟨he, h0⟩ | ⟨g, cap, cur, he, hb, hg, h1, h2, _⟩
 · injection he with _ _ hc
   subst hc
   exact ⟨by omega, by omega, fun hl => by omega⟩
 · injection he with hA _ hc
   subst hA; subst hc
   refine ⟨h1, by unfold maxLen at h2; omega, fun hl => ⟨g, 0, rfl, (yp hrow rfl).2, fun i n hn => ?_⟩⟩
   obtain ⟨hi, _⟩ := List.getElem?_eq_some_iff.1 hn
   have hu : ∃ u, vs[i]? = some u := ⟨vs[i]'(by rw [h.len]; exact hi), by simp⟩
   obtain ⟨u, hu⟩ := hu
   have hint := h.ints i n u hn hu
   have hcell : ∀ j x, j < 7 → (aw n u)[j]? = some x → w.cell? ⟨g, 0 + i * 7 + j, none⟩ = some x := fun j x hj hx => by
    have := hrow.cells (g := g) rfl (i * 7 + j) x (by rw [iN l vs i j n u h.len hn hu hj]; exact hx)
    have e : (⟨g, 0, none⟩ : Addr).add (i * 7 + j) = ⟨g, i * 7 + j, none⟩ := by unfold Addr.add; split <;> simp_all
    rw [e] at this
    rw [Nat.zero_add]; exact this
   obtain ⟨A6, c6, rfl, hA6, h6, h6'⟩ := ry hint
   have hrn := hr n (List.mem_of_getElem? hn)
   refine ⟨hcell 0 _ (by omega) rfl, hcell 1 _ (by omega) rfl, hcell 2 _ (by omega) rfl, hcell 3 _ (by omega) rfl, hcell 4 _ (by omega) rfl, hcell 5 _ (by omega) rfl, ⟨A6, c6, hcell 6 _ (by omega) rfl, hrn.2, h6, by unfold maxLen at h6'; omega, fun hl => ?_⟩, hrn.1⟩
   rcases hint.2 with ⟨he, h0⟩ | ⟨g6, cap6, cur6, he, _⟩
   · omega
   · injection he with hA _ _
     subst hA
     refine ⟨g6, 0, rfl, (yp hint rfl).2, fun j x hx => ?_⟩
     have := hint.cells (g := g6) rfl j (.int .i64 x) (by simp [cI, hx])
     have e : (⟨g6, 0, none⟩ : Addr).add j = ⟨g6, j, none⟩ := by unfold Addr.add; split <;> simp_all
     rw [e] at this
     rw [Nat.zero_add]; exact this
end Go.Proofs.YtmeegfamopaljaaGreatDoor

namespace Go.SL
open Go Go.RowKit
section
variable {P : Program} {E : Env} {n : Nat} {D : List Deferred} {ts : List (Nat × Value)} {l : List HP}
theorem je {e : TypeId} {size m : Nat} {v : Value} {xs : List Value} {r : List HP} {K : Act → World → Prop} (s : Sel (row e size v m xs) l r)
 (h0 : v = .slice none 0 0 → m = 0 → xs = [] → At E n D ts r K)
 (h1 : ∀ g cap cur, v = .slice (some ⟨g, 0, none⟩) m cap → xs.length = m * size → m ≤ cap → cap ≤ maxLen → cur.size = cap * size → cur.toList.take (m * size) = xs → At E n D ts (blk g e cur :: r) K) : At E n D ts l K := fun a w f hw => by
 have h := hw.sel s
 obtain ⟨F1, F2, hF1, hF2, hd, ⟨⟨hlen, hown⟩, hF⟩, hl⟩ := h.star
 rcases hown with ⟨rfl, rfl⟩ | ⟨g, cap, cur, rfl, _, hg, hm, hc, hs, ht⟩
 · exact h0 Z Z (List.eq_nil_of_length_eq_zero (by simpa using hlen)) a w f ⟨hw.is, hl.mono hF2⟩
 · exact h1 g cap cur Z hlen hm hc hs ht a w f ⟨hw.is, F1, F2, hF1, hF2, hd, ⟨hF g Z, hg⟩, hl⟩
theorem aJ {e : TypeId} {size m : Nat} {v : Value} {xs : List Value} {r : List HP} {K : Act → World → Prop} (s : Sel (row e size v m xs) l r)
 (h : ∀ A c, v = .slice A m c → (A = none → m = 0 ∧ c = 0) → (∀ ad, A = some ad → ∃ g, ad = ⟨g, 0, none⟩) → m ≤ c → c ≤ maxLen → xs.length = m * size → At E n D ts l K) : At E n D ts l K := fun a w f hw => by
 obtain ⟨hlen, hown⟩ := hw.row s
 rcases hown with ⟨rfl, rfl⟩ | ⟨g, cap, cur, rfl, _, hg, hm, hc, hs, ht⟩
 · exact h none 0 rfl (fun _ => ⟨rfl, rfl⟩) (fun _ hx => by cases hx) (Nat.le_refl _) (Nat.zero_le _) hlen a w f hw
 · exact h _ cap rfl (fun hx => by cases hx) (fun ad hx => by injection hx with hx; exact ⟨g, hx.symm⟩) hm hc hlen a w f hw
theorem cq {e : TypeId} {size m g cap : Nat} {cur : Array Value} {xs : List Value} {r : List HP} (hm : m ≤ cap) (hc : cap ≤ maxLen) (hs : cur.size = cap * size) (ht : cur.toList.take (m * size) = xs) :
 Ent (blk g e cur :: r) (row e size (.slice (some ⟨g, 0, none⟩) m cap) m xs :: r) := fun w _ ⟨F1, F2, h1, h2, hd, hp, hl⟩ =>
 ⟨F1, F2, h1, h2, hd, ⟨⟨by rw [← ht]; simp [hs]; rw [Nat.min_eq_left hm], .inr ⟨g, cap, cur, rfl, Nat.zero_le _, hp.2, hm, hc, hs, ht⟩⟩, fun k hk => by injection hk with hk; subst hk; exact hp.1⟩, hl⟩
theorem uP {e : TypeId} {size m g o c : Nat} {xs vs : List Value} {r : List HP} (s : Sel (row e size (.slice (some ⟨g, 0, none⟩) m c) m xs) l r) (h : ∀ j u, vs[j]? = some u → xs[o + j]? = some u) : ∀ w, Holds E w l → gK g o vs w := fun w hw j v hj => by
 have := (hw.row s).cells (g := g) rfl (o + j) v (h j v hj)
 rwa [add_plain, Nat.zero_add] at this
theorem iw {e : TypeId} {size m g o c : Nat} {xs : List Value} {u : Value} {r : List HP} (s : Sel (row e size (.slice (some ⟨g, 0, none⟩) m c) m xs) l r) (h : xs[o]? = some u) : ∀ w, Holds E w l → bI ⟨g, o, none⟩ u w := fun w hw => by
 have := (hw.row s).cells (g := g) rfl o u h
 rwa [add_plain, Nat.zero_add] at this
end
theorem bn {E : Env} {n : Nat} {D : List Deferred} {ts : List (Nat × Value)} {m l : List HP} {K : Act → World → Prop} (h : At E n D ts (m ++ l) K) : At E n D ts (HP.all m :: l) K := fun a w f hw => h a w f (hw.ent Ent.unall)
end Go.SL
namespace Go.Proofs.YtmeegfamopaljaaGreatDoor
open Go Go.RowKit Go.SL
abbrev bh (v : Value) (l : List Int) : HP := row 3 1 v l.length (cI l)
def bB (vs : List Value) (l : List FK.Node) : List HP := (vs.zip l).map fun p => bh p.1 p.2.after
def nodesOwn (v : Value) (l : List FK.Node) : HP := HP.ex fun vs : List Value => HP.all (HP.pure (vs.length = l.length) :: row 46 7 v l.length (bl l vs) :: bB vs l)
theorem Star.mem {w : World} {p : HP} : ∀ {l : List HP} {F : Nat → Prop}, Star w l F → p ∈ l → p.sat w F
 | [], _, _, h => by cases h
 | q :: l, F, ⟨F1, F2, h1, h2, hd, hp, hl⟩, h => by
  rcases List.mem_cons.1 h with rfl | h
  · exact p.loc h1 (fun _ _ => rfl) hp
  · exact p.loc h2 (fun _ _ => rfl) (Star.mem hl h)
theorem nodesOwn.own {E : Env} {w : World} {v : Value} {ns : List FK.Node} {l r : List HP} (s : Sel (nodesOwn v ns) l r) (hw : Holds E w l) : ∃ vs, OwnNodes w 0 v ns vs := by
 obtain ⟨F1, F2, h1, h2, hd, ⟨vs, hp⟩, hl⟩ := (hw.sel s).star
 obtain ⟨_, G2, _, _, _, hlen, _, G4, _, _, _, hrow, hafts⟩ := hp
 refine ⟨vs, hlen, hrow.1, fun i nd u hi hu => ?_⟩
 have hz : (vs.zip ns)[i]? = some (u, nd) := by simp [List.getElem?_zip_eq_some, hi, hu]
 have hm : bh u nd.after ∈ bB vs ns := List.mem_map.2 ⟨(u, nd), List.mem_of_getElem? hz, rfl⟩
 exact (Star.mem hafts hm).1
theorem nodesOwn.at {E : Env} {A : Option Addr} {c : Nat} {ns : List FK.Node} {l r : List HP} (s : Sel (nodesOwn (.slice A ns.length c) ns) l r) (hr : ∀ n ∈ ns, (i64 n.budget ∧ i64 n.close ∧ i64 n.beat ∧ i64 n.base ∧ i64 n.cap ∧ i64 n.jitter) ∧ ∀ x ∈ n.after, i64 x) :
 ∀ w, Holds E w l → NodesAt w w.heap.size A c ns := fun w hw => by
 obtain ⟨vs, h⟩ := nodesOwn.own s hw
 exact h.nodesAt hr
theorem nodesOwn.ent {v : Value} {ns : List FK.Node} {vs : List Value} {r : List HP} (h : vs.length = ns.length) : Ent (row 46 7 v ns.length (bl ns vs) :: (bB vs ns ++ r)) (nodesOwn v ns :: r) := by
 have e1 : Ent (row 46 7 v ns.length (bl ns vs) :: (bB vs ns ++ r)) ((HP.pure (vs.length = ns.length) :: row 46 7 v ns.length (bl ns vs) :: bB vs ns) ++ r) := Ent.pure h
 exact (e1.trans Ent.all).trans (Ent.ex (f := fun vs : List Value => HP.all (HP.pure (vs.length = ns.length) :: row 46 7 v ns.length (bl ns vs) :: bB vs ns)) vs)
theorem ln {E : Env} {n : Nat} {D : List Deferred} {ts : List (Nat × Value)} {l r : List HP} {K : Act → World → Prop} {v : Value} {ns : List FK.Node} (s : Sel (nodesOwn v ns) l r)
 (h : ∀ vs : List Value, vs.length = ns.length → At E n D ts (row 46 7 v ns.length (bl ns vs) :: (bB vs ns ++ r)) K) : At E n D ts l K := fun a w f hw => by
 obtain ⟨F1, F2, h1, h2, hd, ⟨vs, hp⟩, hl⟩ := (hw.sel s).star
 obtain ⟨F3, F4, h3, h4, hd', hlen, hp⟩ := hp
 refine h vs hlen a w f ⟨hw.is, ?_⟩
 exact gI (l := row 46 7 v ns.length (bl ns vs) :: bB vs ns) (F1 := F1) (F2 := F2) h1 h2 hd (Star.mono h4 hp) hl
end Go.Proofs.YtmeegfamopaljaaGreatDoor

namespace FK
def th (b : List UInt8) (p : Nat) : Nat → Nat → Nat → Except Nat (Nat × Nat)
 | 0, _, _ => .error p
 | k + 1, i, n => match b[p + i]? with
  | none => .error p
  | some c => if c.toNat < 128 then (if c.toNat = 0 ∧ 0 < i then .error p else .ok (n + c.toNat * 128 ^ i, p + i + 1)) else th b p k (i + 1) (n + c.toNat % 128 * 128 ^ i)
theorem rd_go (b : List UInt8) (p : Nat) : rd b p = th b p 3 0 0 := by
 unfold rd
 simp only [th, Nat.add_zero]
 cases h0 : b[p]? with
 | none => rfl
 | some c =>
  simp only
  by_cases hc : c.toNat < 128
  · simp [hc]
  · simp only [hc, if_false, Nat.zero_add]
    cases h1 : b[p + 1]? with
    | none => rfl
    | some d =>
     simp only
     by_cases hd : d.toNat < 128
     · simp only [hd, if_true]
       by_cases hz : d.toNat = 0
       · simp [hz]
       · simp [hz]
     · simp only [hd, if_false]
       cases h2 : b[p + 2]? with
       | none => rfl
       | some e =>
        simp only
        by_cases he : e.toNat < 128
        · simp only [he, if_true]
          by_cases hz : e.toNat = 0
          · simp [hz]
          · simp [hz]
        · simp only [he, if_false]
theorem qY {b : List UInt8} {p n q : Nat} (h : rd b p = .ok (n, q)) : n < 2097152 ∧ p < q ∧ q ≤ b.length := by
 unfold rd at h
 split at h
 · cases h
 · rename_i c hc
   have hl0 := (List.getElem?_eq_some_iff.1 hc).1
   split at h
   · injection h with h; injection h with h1 h2; omega
   · split at h
     · cases h
     · rename_i d hd
       have hl1 := (List.getElem?_eq_some_iff.1 hd).1
       split at h
       · split at h
         · cases h
         · injection h with h; injection h with h1 h2; omega
       · split at h
         · cases h
         · rename_i e he
           have hl2 := (List.getElem?_eq_some_iff.1 he).1
           split at h
           · split at h
             · cases h
             · injection h with h; injection h with h1 h2; omega
           · cases h
def l8 (l : List Int) (after : List Int) : Node := ⟨l.getD 0 0, l.getD 1 0, l.getD 2 0, l.getD 3 0, l.getD 4 0, l.getD 5 0, after⟩
def gq (b : List UInt8) : Nat → List Int → Rd Node
 | 0, l, p => andThen (dB b (ec b) p) fun after p => .ok (l8 l after, p)
 | k + 1, l, p => andThen (ec b p) fun x p => gq b k (l ++ [x]) p
theorem sx (b : List UInt8) (p : Nat) : fw b p = gq b 6 [] p := rfl
end FK
namespace Go
theorem y5 (i n c : Nat) (hn : n < 128 ^ i) (hi : i ≤ 2) (hc : c < 128) : bits BinOp.or IntKind.i64 (n : Int) ((c * 128 ^ i : Nat) : Int) = ((n + c * 128 ^ i : Nat) : Int) := by
 have h7 : 128 ^ i = 2 ^ (7 * i) := by rw [Nat.pow_mul]
 have hle : c * 128 ^ i + n < 2 ^ 63 := by
  have : i = 0 ∨ i = 1 ∨ i = 2 := by omega
  rcases this with rfl | rfl | rfl <;> simp at hn ⊢ <;> omega
 have hw : ∀ n : Int, 0 ≤ n → n < 2 ^ 63 → IntKind.i64.wrap n = n := fun n h1 h2 => by
  have h3 : (2 : Int) ^ 63 = 9223372036854775808 := by decide
  exact IntWalk.i64_in n (by omega)
 have := (bits_nat .i64 63 (by decide) hw n (c * 128 ^ i) (by omega) (by omega)).2
 rw [this, h7]
 have h2 := Nat.two_pow_add_eq_or_of_lt (i := 7 * i) (b := n) (by rw [← h7]; exact hn) c
 rw [Nat.or_comm, Nat.mul_comm c, ← h2, Nat.add_comm]
theorem vL (c : Nat) (hc : c < 256) : bits BinOp.and IntKind.u8 (c : Int) 127 = ((c % 128 : Nat) : Int) := by
 have := u8_and_nat c 127 (by omega) (by omega)
 rw [show ((127 : Int)) = ((127 : Nat) : Int) from rfl, this]
 have key : ∀ x : Fin 256, x.val &&& 127 = x.val % 128 := by decide +kernel
 rw [key ⟨c, hc⟩]
end Go

namespace Go.Proofs.YtmeegfamopaljaaGreatDoor
open Go Go.RowKit Go.SL
variable {G : Env → Prop}
structure Reads (p : HP) (A : Option Addr) (bs : List UInt8) : Prop where
 form : bs ≠ [] → ∃ b o, A = some ⟨b, o, none⟩
 cell : ∀ w F, p.sat w F → ∀ b o, A = some ⟨b, o, none⟩ → ∀ (j : Nat) (x : UInt8), bs[j]? = some x → w.cell? ⟨b, o + j, none⟩ = some (.int .u8 x.toNat)
theorem Reads.at {E : Env} {p : HP} {A : Option Addr} {bs : List UInt8} {l r : List HP} {b o j : Nat} {x : UInt8} (h : Reads p A bs) (s : Sel p l r) (hA : A = some ⟨b, o, none⟩) (hx : bs[j]? = some x) : ∀ w, Holds E w l → bI ⟨b, o + j, none⟩ (.int .u8 x.toNat) w := fun w hw => by
 obtain ⟨F1, _, _, _, _, hp, _⟩ := (hw.sel s).star
 exact h.cell w F1 hp b o hA j x hx
theorem shl7 (c i : Nat) (hc : c < 128) (hi : i ≤ 2) : IntKind.i64.wrap ((c : Int) * 2 ^ min (7 * (i : Int)).toNat IntKind.i64.bits) = ((c * 128 ^ i : Nat) : Int) := by
 have : i = 0 ∨ i = 1 ∨ i = 2 := by omega
 rcases this with rfl | rfl | rfl
 · exact cT (x := (c : Int) * 1) (by omega)
 · exact cT (x := (c : Int) * 128) (by omega)
 · exact cT (x := (c : Int) * 16384) (by omega)
set_option maxRecDepth 10000 in
theorem eT {p : HP} {A : Option Addr} {c : Nat} {bs : List UInt8} (hp : Reads p A bs) (hl : bs.length ≤ 1099511627776) (r q : Nat) (hq : q ≤ bs.length) :
 DoesX Tryz.prog G 151 [.pointer (some ⟨r, 0, none⟩)].toArray [blk r 240 #[.slice A bs.length c, .int .i64 q], p]
  (fun u m => ∃ n q' : Nat, FK.rd bs q = .ok (n, q') ∧ u = .int .i64 n ∧ m = [blk r 240 #[.slice A bs.length c, .int .i64 q'], p])
  (fun x m => ∃ e q' : Nat, FK.rd bs q = .error e ∧ x = [{ v := .iface 237 (.int .i64 e), recovered := false }] ∧ m = [blk r 240 #[.slice A bs.length c, .int .i64 q'], p]) := by
 refine DoesX.body Tryz.func151 Z Z fun E fr hE => ?_
 refine aF (At.seq (At.region (L.as Z Z (L.nil (At.then (At.seq (At.region (L.mv Z Z (aN Z Z (aE 1 Z Z Z (aX Z Z Z Z (L.as Z Z (L.as Z Z (L.nil (At.then ?_)))))))))))))))
 refine At.seq (At.cut (X := Nat) (fun _ => [(3, .int .i64 q)]) (fun q' => [blk r 240 #[.slice A bs.length c, .int .i64 q'], p] ++ fr) (fun _ => FK.rd bs q = .error q) ?_ ?_)
 ·
  refine At.seq (At.region (L.mv Z Z (L.nil (At.then (At.block ?_)))))
  refine aT (X := Nat × Nat) (fun x => [(11, .int .i64 x.1), (4, .int .i64 x.2), (3, .int .i64 q), (0, .pointer (some ⟨r, 0, none⟩))]) (fun x => blk r 240 #[.slice A bs.length c, .int .i64 (q + x.1 : Nat)] :: p :: fr) (fun x => x.1 ≤ 3 ∧ x.2 < 128 ^ x.1 ∧ FK.th bs q (3 - x.1) x.1 x.2 = FK.rd bs q ∧ q + x.1 ≤ bs.length) (fun x => 3 - x.1) (0, 0) ⟨by omega, by simp, (FK.rd_go bs q).symm, hq⟩ ⟨rfl, rfl, rfl, rfl, trivial⟩ (Ent.refl _) ?_
  rintro ⟨i, n⟩ ⟨hi, hn, hgo, hqi⟩
  simp only at hi hn hgo hqi ⊢
  refine At.seq (At.region (L.pure Z (bf Z Z Z) (L.nil (At.then (At.seq ?_)))))
  refine aC Z (fun c12 => ?_) (fun c12 => ?_)
  ·
   have hi2 : i ≤ 2 := by omega
   refine At.skip (At.then (At.seq (At.block (At.seq (At.region (L.mv Z Z (L.as Z Z (L.nil (At.then (At.seq (At.seq (Dr.start Z (dP 0 Z Z (ag Z) (dP 1 Z Z (aq Z) (dP 2 Z Z (ab (off := 1) Z Z) (dL 3 Z Z (aa Z Z) (ae Z) (dP 4 Z Z (ag Z) (dP 5 Z Z (aq Z) (dP 6 Z Z (ab (off := 0) Z Z) ?_)))))))))))))))))))
   refine dL 7 Z Z (aa Z Z) (ae Z) (dP 8 Z Z (aP Z Z) (dP 9 Z Z (aV Z Z Z) (dE (At.then ?_))))
   refine aC Z (fun c23 => ?_) (fun c23 => ?_)
   ·
    refine At.exit (au (dv Z (au (ar (an ?_)))))
    exact bk (q + i) (by rw [← hgo, show 3 - i = (2 - i) + 1 by omega, FK.th, List.getElem?_eq_none (by omega)]) ⟨rfl, trivial⟩ (Ent.refl _)
   ·
    have hlt : q + i < bs.length := by omega
    obtain ⟨b, o, hA⟩ := hp.form (by intro h; simp [h] at hlt)
    obtain ⟨x, hx⟩ : ∃ x, bs[q + i]? = some x := ⟨bs[q + i], by simp [hlt]⟩
    have hxl := x.toNat_lt
    have hpow : 128 ^ i ≤ 16384 := Nat.pow_le_pow_right (by omega) (by omega : i ≤ 2)
    have hstep := hgo
    rw [show 3 - i = (2 - i) + 1 by omega, FK.th, hx] at hstep
    simp only at hstep
    refine At.skip (At.then (At.seq (Dr.start Z (dP 0 Z Z (ag Z) (dP 1 Z Z (aq Z) (dP 2 Z Z (ab (off := 0) Z Z) (dL 3 Z Z (aa Z Z) (ae Z) (dP 4 Z Z (ag Z) (dP 5 Z Z (aq Z) (dP 6 Z Z (ab (off := 1) Z Z) (dL 7 Z Z (aa Z Z) (ae Z) ?_)))))))))))
    refine dP 8 Z Z (bD (z := 1) Z Z (by rw [hA]; rfl) Z hlt) ?_
    refine dL 9 Z Z (aa Z Z) (hp.at (.tail (.head)) hA (by simpa using hx)) ?_
    refine dP 10 Z Z (az Z) (dE (At.then (At.seq (At.region (L.mv Z Z (aN Z Z (aE 1 Z Z Z (aX Z Z Z Z ?_))))))))
    refine L.pure Z (aO Z Z (cT (by omega))) ?_
    refine aN Z Z (aE 1 Z Z Z ?_)
    refine L.st Z Z Z Z (by first | decide | simp | (simp; omega)) ?_
    refine L.nil (At.then (At.seq (At.region (L.mv Z Z (L.mv Z Z (L.pure Z (p9 Z Z (vL _ hxl)) ?_))))))
    refine L.pure Z (bq Z Z Z (cT (by omega))) ?_
    refine L.mv Z Z ?_
    refine L.pure Z (lF Z Z (cT (by omega))) ?_
    refine L.pure Z (js Z Z (by omega) (shl7 (x.toNat % 128) i (by omega) hi2)) ?_
    refine L.pure Z (re Z Z (y5 i n (x.toNat % 128) hn hi2 (by omega))) ?_
    refine L.as Z Z (L.nil (At.then (At.seq (At.region (L.mv Z Z (L.pure Z (bf Z Z Z) (L.nil (At.then ?_))))))))
    refine aC Z (fun c50 => ?_) (fun c50 => ?_)
    ·
     rw [if_pos (by omega)] at hstep
     have hm : x.toNat % 128 = x.toNat := Nat.mod_eq_of_lt (by omega)
     refine At.seq (At.seq (At.region (L.mv Z Z (L.bool Z (aV Z Z Z) (fun _ _ => trivial) fun c52 e52 => (L.mv Z Z ?_)))))
     refine m7 c52 (by rfl) ?_
     refine L.g Z Z (fun _ => rfl) (ag Z) (fun _ _ => trivial) ?_
     refine m7 c52 (by rfl) ?_
     refine L.g Z Z (fun _ => rfl) (dZ Z Z Z) (fun _ _ => trivial) ?_
     refine L.bool Z (uy Z Z Z) (fun _ _ => trivial) fun c56 e56 => (L.nil (At.then ?_))
     refine eD Z (fun c56 => ?_) (fun c56 => ?_)
     ·
      simp only [e56, e52, Bool.and_eq_true, decide_eq_true_eq] at c56
      refine At.exit (au (dv Z (au (ar (an ?_)))))
      exact bk (q + i + 1) (by rw [← hstep, if_pos (by omega)]) ⟨rfl, trivial⟩ (Ent.refl _)
     ·
      rw [if_neg (by intro h; rw [e56, e52] at c56; simp at c56; omega)] at hstep
      refine At.skip (At.then (At.seq (At.region (L.mv Z Z (L.as Z Z (L.nil (At.then (At.ret (aB (aI (bT (aB (uM ?_)))))))))))))
      exact lc (.inl Z) (aA _ Z Z ⟨n + x.toNat % 128 * 128 ^ i, q + i + 1, by rw [← hstep, hm], rfl, rfl⟩ (Ent.refl _))
    ·
     rw [if_neg (by omega)] at hstep
     refine At.skip (al (At.then (At.region ?_)))
     refine L.pure Z (aO Z Z (cT (by omega))) ?_
     refine L.mv Z Z (L.nil ?_)
     exact At.round (i + 1, n + x.toNat % 128 * 128 ^ i) ⟨by simp only; omega, by rw [Nat.pow_succ]; have := Nat.mul_le_mul_right (128 ^ i) (show x.toNat % 128 ≤ 127 by omega); simp only; omega, by show FK.th bs q (3 - (i + 1)) (i + 1) _ = _; rw [show 3 - (i + 1) = 2 - i by omega]; exact hstep, by simp only; omega⟩ (by simp only; omega) ⟨rfl, rfl, rfl, rfl, trivial⟩ (Ent.refl _)
  ·
   obtain rfl : i = 3 := by omega
   refine At.exit (au (ar (an ?_)))
   exact bk (q + 3) hgo.symm ⟨rfl, trivial⟩ (Ent.refl _)
 intro q' hbad
 refine At.region (L.mv Z Z (L.pure Z (cG Z Z Z) (L.op Z (vo Z ?_))))
 exact fR _ ⟨q, q', hbad, rfl, rfl⟩ (Ent.refl _)
end Go.Proofs.YtmeegfamopaljaaGreatDoor

namespace Go.Proofs.YtmeegfamopaljaaGreatDoor
open Go Go.RowKit Go.SL
variable {G : Env → Prop}
def pS (k : Int) : List UInt8 := FK.bz k.toNat
def jk (d : Nat) (ns : List FK.Node) (k : Nat) : List UInt8 := FK.bz d ++ FK.bz ns.length ++ (ns.take k).flatMap FK.cU
theorem uD {d : Nat} {ns : List FK.Node} {k : Nat} {nd : FK.Node} (h : ns[k]? = some nd) : jk d ns (k + 1) = jk d ns k ++ FK.cU nd := by
 obtain ⟨hk, hn⟩ := List.getElem?_eq_some_iff.1 h
 unfold jk
 rw [List.take_succ_eq_append_getElem hk, hn]
 simp
theorem xw {d : Nat} {ns : List FK.Node} (hd : d ≤ 1048576) (hl : ns.length ≤ 12) (ho : ∀ n ∈ ns, FK.cf n ∧ FK.EdgesOk ns.length (-1) n.after) (k : Nat) : (jk d ns k).length ≤ 700 := by
 have h := flat_len FK.cU 57 (ns.take k) fun n hn => by
  have := ho n (List.mem_of_mem_take hn)
  exact sX hl this.1 this.2
 have h1 := FK.ci (n := d) (by omega)
 have h2 := FK.ci (n := ns.length) (by omega)
 have h3 : (ns.take k).length ≤ 12 := by simp; omega
 have h4 : 57 * (ns.take k).length ≤ 57 * 12 := Nat.mul_le_mul_left _ h3
 unfold jk
 simp only [List.length_append]
 omega
theorem vi (b : Nat) : ∀ j, j < 6 → (eE b 0)[j]? = some (.pointer (some ⟨b, j, none⟩))
 | 0, _ => rfl | 1, _ => rfl | 2, _ => rfl | 3, _ => rfl | 4, _ => rfl | 5, _ => rfl
 | j + 6, h => by omega
theorem py {α : Type} (f : α → List UInt8) (l : List α) (j : Nat) : ((l.take j).flatMap f).length ≤ (l.flatMap f).length := by
 have : l.flatMap f = (l.take j).flatMap f ++ (l.drop j).flatMap f := by rw [← List.flatMap_append, List.take_append_drop]
 rw [this]; simp
theorem jT {α : Type} {l : List α} {j : Nat} {x : α} (h : l[j]? = some x) : l.take (j + 1) = l.take j ++ [x] := by
 obtain ⟨h1, h2⟩ := List.getElem?_eq_some_iff.1 h
 rw [List.take_succ_eq_append_getElem h1, h2]
def cL (nd : FK.Node) (A6 : Option Addr) (c6 : Nat) : List Value := [.int .i64 nd.budget, .int .i64 nd.close, .int .i64 nd.beat, .int .i64 nd.base, .int .i64 nd.cap, .int .i64 nd.jitter, .slice A6 nd.after.length c6]
theorem AF (nd : FK.Node) (A6 : Option Addr) (c6 : Nat) : ∀ j, j < 6 → ∃ x, (kE nd)[j]? = some x ∧ (cL nd A6 c6)[j]? = some (.int .i64 x)
 | 0, _ => ⟨_, rfl, rfl⟩ | 1, _ => ⟨_, rfl, rfl⟩ | 2, _ => ⟨_, rfl, rfl⟩ | 3, _ => ⟨_, rfl, rfl⟩ | 4, _ => ⟨_, rfl, rfl⟩ | 5, _ => ⟨_, rfl, rfl⟩
 | j + 6, h => by omega
theorem nT (z0 z1 z2 z3 z4 z5 z6 : Value) (nd : FK.Node) (A6 : Option Addr) (c6 : Nat) : eZ #[z0, z1, z2, z3, z4, z5, z6] 0 (cL nd A6 c6) = (cL nd A6 c6).toArray := by simp [eZ, cL]
theorem NodeAt.row {w : World} {B b off : Nat} {nd : FK.Node} (h : NodeAt w B b off nd) : ∃ A6 c6, (∀ j v, (cL nd A6 c6)[j]? = some v → w.cell? ⟨b, off + j, none⟩ = some v) ∧ IntsAt w B A6 c6 nd.after := by
 obtain ⟨h0, h1, h2, h3, h4, h5, ⟨A, c, h6, hi⟩, _⟩ := h
 refine ⟨A, c, fun j v hj => ?_, hi⟩
 match j, hj with
 | 0, hj => injection hj with hj; subst hj; exact h0
 | 1, hj => injection hj with hj; subst hj; exact h1
 | 2, hj => injection hj with hj; subst hj; exact h2
 | 3, hj => injection hj with hj; subst hj; exact h3
 | 4, hj => injection hj with hj; subst hj; exact h4
 | 5, hj => injection hj with hj; subst hj; exact h5
 | 6, hj => injection hj with hj; subst hj; exact h6
 | j + 7, hj => simp [cL] at hj
theorem AE {nd : FK.Node} (h : FK.cf nd) : ∀ x ∈ kE nd, 0 ≤ x ∧ x ≤ 1048576 := by
 obtain ⟨a1, a2, ⟨b1, b2⟩, ⟨c1, c2⟩, ⟨d1, d2⟩, ⟨e1, e2⟩, f1, f2⟩ := h
 intro x hx
 simp only [kE, List.mem_cons, List.not_mem_nil, or_false] at hx
 rcases hx with rfl | rfl | rfl | rfl | rfl | rfl <;> omega
set_option maxRecDepth 10000 in
theorem s9 (d : Nat) (A : Option Addr) (c : Nat) (ns : List FK.Node) (hd : d ≤ 1048576) (hl : ns.length ≤ 12) (ho : ∀ n ∈ ns, FK.cf n ∧ FK.EdgesOk ns.length (-1) n.after) :
 Gives Tryz.prog G 90 [.agg #[.int .i64 d, .slice A ns.length c]].toArray (fun w => NodesAt w w.heap.size A c ns) fun v m => m = [bM v (FK.bL ⟨d, ns⟩)] := by
 have hlen := xw hd hl ho
 refine Gives.body Tryz.func90 Z Z fun E w0 hE h0 hN => ?_
 refine At.seq (At.region (L.op Z (cc Z Z fun b1 => (L.as Z Z (L.nil (At.then (At.seq (Dr.start Z (dP 0 Z Z (ab (off := 0) Z Z) (dL 1 Z Z (aa Z Z) (ae Z) ?_))))))))))
 refine dP 2 Z Z (bq Z Z Z (wu64 (by omega))) ?_
 refine dP 4 Z Z (ab (off := 1) Z Z) (dL 5 Z Z (aa Z Z) (ae Z) (dP 6 Z Z (aP Z Z) ?_))
 refine dP 7 Z Z (bq Z Z Z (wu64 (by omega))) ?_
 refine dR 3 Z Z (ah Z Z Z hE (ep _ [] d (by omega) (by simp)) Ent.row0 ?_)
 rintro v m rfl
 refine ai ?_
 obtain ⟨v13, hv13⟩ : ∃ v13, v13 = v := ⟨_, rfl⟩
 refine Dr.kept [true, true] (by kernel_rfl) (Kept.cons (ae Z) (Kept.cons (ae Z) Kept.nil)) ?_
 refine dR 8 Z Z (ah Z Z Z hE (ep _ _ ns.length (by omega) (by have := FK.ci (n := d) (by omega); simp; omega)) (Ent.refl _) ?_)
 rintro v m rfl
 refine ai ?_
 refine Dr.kept [true, true] (by kernel_rfl) (Kept.cons (ae Z) (Kept.cons (ae Z) Kept.nil)) ?_
 refine dP 9 Z Z (az Z) (dE (At.then (At.seq (At.seq (At.region (aE 1 Z Z Z (aX Z Z Z Z (L.pure Z (aP Z Z) (L.mv Z Z (L.nil (At.then (At.block ?_))))))))))))
 refine aT (X := Nat × Value) (fun x => [(22, .int .i64 x.1), (3, x.2), (20, .slice A ns.length c), (21, .int .i64 ns.length)]) (fun x => [bM x.2 (jk d ns x.1), old E w0]) (fun x => x.1 ≤ ns.length) (fun x => ns.length - x.1) (0, _) (by omega) ⟨rfl, rfl, rfl, rfl, trivial⟩ (by simp only [jk, List.take_zero, List.flatMap_nil, List.append_nil, List.nil_append]; exact Ent.cons Ent.drop) ?_
 rintro ⟨k, v3⟩ hk
 simp only at hk ⊢
 refine At.seq (At.region (L.pure Z (bf Z Z Z) (L.nil (At.then (At.seq ?_)))))
 refine aC Z (fun c23 => ?_) (fun c23 => ?_)
 ·
  have hlt : k < ns.length := by omega
  obtain ⟨b, off, rfl, hbB, hcell⟩ := hN.cells (by omega)
  obtain ⟨nd, db⟩ : ∃ nd, ns[k]? = some nd := ⟨ns[k], by simp [hlt]⟩
  obtain ⟨A6, c6, hrow, hints⟩ := NodeAt.row (hcell k nd db)
  obtain ⟨hok, hed⟩ := ho nd (List.mem_of_getElem? db)
  have hnx := uD (d := d) db
  have hl1 : (jk d ns k).length + ((kE nd).flatMap pS).length + (FK.bz nd.after.length).length + (nd.after.flatMap pS).length ≤ 700 := by
   have := hlen (k + 1)
   rw [hnx, lj] at this
   simp only [List.length_append] at this
   have e : (fun k : Int => FK.bz k.toNat) = pS := rfl
   rw [e] at this
   omega
  have hal : nd.after.length ≤ 12 := by
   rcases hed.length_le (by omega) with h | h
   · omega
   · rw [h]; simp
  refine At.skip (At.then (At.seq (At.block (At.seq (At.region ?_)))))
  refine L.pure Z (bD (z := 7) Z Z Z Z (by omega)) ?_
  refine L.val Z (am (vs := cL nd A6 c6) Z Z Z Z) (ym (.tail (.head)) h0 hrow) (L.op Z (aH (z := .agg #[.int .i64 0, .int .i64 0, .int .i64 0, .int .i64 0, .int .i64 0, .int .i64 0, .slice none 0 0]) Z Z fun b5 => ?_))
  refine L.op Z (aG Z (m := 7) (vs := cL nd A6 c6) Z Z Z Z (by simp [cL, Value.oneCell']) (by simp [cL, Value.cells]) ?_)
  simp only [Value.cells, nT]
  refine L.nil (At.then (At.seq (At.seq (At.region (L.op Z (ah Z Z Z hE (mC b5) (Ent.refl _) ?_))))))
  rintro v m ⟨rfl, rfl⟩
  refine ay (L.mv Z Z (L.nil (At.then (At.block ?_))))
  refine aT (X := Nat × Value) (fun x => [(27, .int .i64 x.1), (3, x.2), (22, .int .i64 k), (20, .slice (some ⟨b, off, none⟩) ns.length c), (21, .int .i64 ns.length), (26, .agg (eE b5 0)), (5, .pointer (some ⟨b5, 0, none⟩))]) (fun x => [bM x.2 (jk d ns k ++ ((kE nd).take x.1).flatMap pS), blk b5 _ (cL nd A6 c6).toArray, old E w0]) (fun x => x.1 ≤ 6) (fun x => 6 - x.1) (0, _) (by omega) ⟨rfl, rfl, rfl, rfl, rfl, rfl, rfl, trivial⟩ (by simp only [List.take_zero, List.flatMap_nil, List.append_nil]; exact Ent.perm (List.Perm.swap _ _ _)) ?_
  rintro ⟨j, v3⟩ hj
  simp only at hj ⊢
  refine At.seq (At.region (L.pure Z (bf Z Z Z) (L.nil (At.then (At.seq ?_)))))
  refine aC Z (fun c28 => ?_) (fun c28 => ?_)
  ·
   have hj6 : j < 6 := by omega
   obtain ⟨x, hx1, hx2⟩ := AF nd A6 c6 j hj6
   have hxr := AE hok x (List.mem_of_getElem? hx1)
   obtain ⟨m, rfl⟩ : ∃ m : Nat, x = m := ⟨x.toNat, by omega⟩
   have hxt := jT hx1
   have hft := py pS (kE nd) j
   refine At.skip (At.then (At.seq (At.block (At.seq (At.region (L.pure Z (nC Z Z Z Z Z hj6 (vi b5 j hj6)) (L.as Z Z (L.nil (At.then (At.region (L.mv Z Z (L.mv Z Z (aN Z Z ?_)))))))))))))
   refine aX Z Z Z (by simpa using hx2) ?_
   refine L.pure Z (bq Z Z Z (wu64 (by omega))) ?_
   refine L.op Z (ah Z Z Z hE (ep _ _ m (by omega) (by simp only [List.length_append]; omega)) (Ent.refl _) ?_)
   rintro v m rfl
   refine ai (L.as Z Z (L.nil (al (At.then (At.region ?_)))))
   refine L.pure Z (aO Z Z (cT (by omega))) ?_
   refine L.mv Z Z (L.nil ?_)
   exact At.round (j + 1, _) (by simp; omega) (by simp; omega) ⟨rfl, rfl, rfl, rfl, rfl, rfl, rfl, trivial⟩ (by rw [hxt]; simp only [List.flatMap_append, List.flatMap_cons, List.flatMap_nil, List.append_nil, List.append_assoc]; exact Ent.refl _)
  ·
   obtain rfl : j = 6 := by omega
   refine At.exit (au (ar (an (At.then (At.seq (At.region (L.mv Z Z (aE 6 Z Z Z (aX Z Z Z Z (L.pure Z (aP Z Z) ?_))))))))))
   refine L.pure Z (bq Z Z Z (wu64 (by omega))) ?_
   refine L.op Z (ah Z Z Z hE (ep _ _ nd.after.length (by omega) (by have e : (kE nd).take 6 = kE nd := rfl; rw [e]; simp only [List.length_append]; omega)) (Ent.refl _) ?_)
   rintro v m rfl
   refine ai (L.as Z Z (L.nil (At.then (At.seq (At.region (aE 6 Z Z Z (aX Z Z Z Z (L.pure Z (aP Z Z) (L.mv Z Z (L.nil (At.then (At.block ?_))))))))))))
   refine aT (X := Nat × Value) (fun x => [(46, .int .i64 x.1), (3, x.2), (22, .int .i64 k), (20, .slice (some ⟨b, off, none⟩) ns.length c), (21, .int .i64 ns.length), (44, .slice A6 nd.after.length c6), (45, .int .i64 nd.after.length)]) (fun x => [bM x.2 (jk d ns k ++ (kE nd).flatMap pS ++ FK.bz nd.after.length ++ (nd.after.take x.1).flatMap pS), old E w0]) (fun x => x.1 ≤ nd.after.length) (fun x => nd.after.length - x.1) (0, _) (by omega) ⟨rfl, rfl, rfl, rfl, rfl, rfl, rfl, trivial⟩ (by simp only [List.take_zero, List.flatMap_nil, List.append_nil]; exact Ent.cons Ent.drop) ?_
   rintro ⟨j, v3⟩ hj
   simp only at hj ⊢
   refine At.seq (At.region (L.pure Z (bf Z Z Z) (L.nil (At.then (At.seq ?_)))))
   refine aC Z (fun c47 => ?_) (fun c47 => ?_)
   ·
    have hlt2 : j < nd.after.length := by omega
    obtain ⟨b6, off6, rfl, hb6, hc6⟩ := hints.cells (by omega)
    obtain ⟨y, hy⟩ : ∃ y, nd.after[j]? = some y := ⟨nd.after[j], by simp [hlt2]⟩
    have hyr := hed.bounds y (List.mem_of_getElem? hy)
    obtain ⟨m, rfl⟩ : ∃ m : Nat, y = m := ⟨y.toNat, by omega⟩
    have hxt := jT hy
    have hft := py pS nd.after j
    refine At.skip (At.then (At.seq (At.block (At.seq (At.region (L.pure Z (bD (z := 1) Z Z Z Z hlt2) ?_))))))
    refine L.val Z (aa Z Z) (vJ (.tail (.head)) h0 (by simpa using hc6 j _ hy)) ?_
    refine L.as Z Z (L.nil (At.then (At.region (L.mv Z Z (L.mv Z Z ?_)))))
    refine L.pure Z (bq Z Z Z (wu64 (by omega))) ?_
    refine L.op Z (ah Z Z Z hE (ep _ _ m (by omega) (by simp only [List.length_append]; omega)) (Ent.refl _) ?_)
    rintro v m rfl
    refine ai (L.as Z Z (L.nil (al (At.then (At.region ?_)))))
    refine L.pure Z (aO Z Z (cT (by omega))) ?_
    refine L.mv Z Z (L.nil ?_)
    exact At.round (j + 1, _) (by simp; omega) (by simp; omega) ⟨rfl, rfl, rfl, rfl, rfl, rfl, rfl, trivial⟩ (by rw [hxt]; simp only [List.flatMap_append, List.flatMap_cons, List.flatMap_nil, List.append_nil, List.append_assoc]; exact Ent.refl _)
   ·
    obtain rfl : j = nd.after.length := by omega
    refine At.exit (au (ar (an (al (At.then (At.region ?_))))))
    refine L.pure Z (aO Z Z (cT (by omega))) ?_
    refine L.mv Z Z (L.nil ?_)
    exact At.round (k + 1, _) (by simp; omega) (by simp; omega) ⟨rfl, rfl, rfl, rfl, trivial⟩ (by rw [hnx, lj]; have e : (fun k : Int => FK.bz k.toNat) = pS := rfl; rw [e, List.take_length]; simp only [List.append_assoc]; exact Ent.refl _)
 ·
  obtain rfl : k = ns.length := by omega
  refine At.exit (au (ar (an (At.then (At.seq (At.region (L.mv Z Z (L.as Z Z (L.nil (At.then (At.ret ?_)))))))))))
  exact aA [bM v3 (FK.bL ⟨d, ns⟩)] rfl Z Z (by have e : jk d ns ns.length = FK.bL ⟨d, ns⟩ := (by simp [jk, FK.bL]); rw [e]; exact Ent.refl _)
end Go.Proofs.YtmeegfamopaljaaGreatDoor

namespace Go.Proofs.YtmeegfamopaljaaGreatDoor
open Go Go.RowKit Go.SL
variable {G : Env → Prop}
abbrev uU (e : Nat) : List PanicEntry := [{ v := .iface 237 (.int .i64 e), recovered := false }]
theorem mt (v : Value) (xs : List Int) (x : Int) : bh v (xs ++ [x]) = row 3 1 v (xs.length + 1) (cI xs ++ [.int .i64 x]) := by simp [bh, cI]
theorem pq {α : Type} (r : FK.Rd α) (l : List α) (q : Nat) : FK.kF r 0 l q = .ok (l, q) := rfl
theorem pr {α : Type} {r : FK.Rd α} {n : Nat} {l : List α} {q q' : Nat} {x : α} (h : r q = .ok (x, q')) : FK.kF r (n + 1) l q = FK.kF r n (l ++ [x]) q' := by simp only [FK.kF, h]
theorem rC {α : Type} {r : FK.Rd α} {n : Nat} {l : List α} {q e : Nat} (h : r q = .error e) : FK.kF r (n + 1) l q = .error e := by simp only [FK.kF, h]
theorem pk {α : Type} {b : List UInt8} {r : FK.Rd α} {q n q' : Nat} (h : FK.rd b q = .ok (n, q')) : FK.dB b r q = FK.kF r n [] q' := by simp only [FK.dB, h]
theorem nY {α : Type} {b : List UInt8} {r : FK.Rd α} {q e : Nat} (h : FK.rd b q = .error e) : FK.dB b r q = .error e := by simp only [FK.dB, h]
theorem kU {b : List UInt8} {q n q' : Nat} (h : FK.rd b q = .ok (n, q')) : FK.ec b q = .ok ((n : Int), q') := by simp only [FK.ec, h]
theorem lM {b : List UInt8} {q e : Nat} (h : FK.rd b q = .error e) : FK.ec b q = .error e := by simp only [FK.ec, h]
set_option maxRecDepth 10000 in
theorem zk {p : HP} {A : Option Addr} {c : Nat} {bs : List UInt8} (hp : Reads p A bs) (hl : bs.length ≤ 1099511627776) (r q : Nat) (hq : q ≤ bs.length) :
 DoesX Tryz.prog G 199 [.pointer (some ⟨r, 0, none⟩), .func (.func 151) #[.pointer (some ⟨r, 0, none⟩)] #[]].toArray [blk r 240 #[.slice A bs.length c, .int .i64 q], p]
  (fun u m => ∃ (xs : List Int) (q' : Nat), FK.dB bs (FK.ec bs) q = .ok (xs, q') ∧ q' ≤ bs.length ∧ (∀ x ∈ xs, 0 ≤ x ∧ x < 2097152) ∧ m = [bh u xs, blk r 240 #[.slice A bs.length c, .int .i64 q'], p])
  (fun x m => ∃ e q' : Nat, FK.dB bs (FK.ec bs) q = .error e ∧ x = uU e ∧ m = [blk r 240 #[.slice A bs.length c, .int .i64 q'], p]) := by
 refine DoesX.body Tryz.func199 Z Z fun E fr hE => ?_
 refine aF (At.seq (At.region (L.as Z Z (L.nil (At.then (At.seq (At.region (L.as Z Z (L.nil (At.then (At.seq (At.seq (At.region (L.mv Z Z ?_))))))))))))))
 refine L.op Z (jN Z Z Z hE (eT hp hl r q hq) (Ent.refl _) ?_ ?_)
 ·
  rintro c m ⟨e, q', he, rfl, rfl⟩
  refine aF (ce (ce ?_))
  exact fR _ ⟨e, q', nY he, rfl, rfl⟩ (Ent.refl _)
 rintro v m ⟨n, q1, hn, rfl, rfl⟩
 refine aF ?_
 obtain ⟨hn1, hn2, hn3⟩ := FK.qY hn
 refine L.as Z Z (L.nil (At.then (At.block ?_)))
 refine aT (X := Nat × List Int × Value × Nat) (fun x => [(6, .int .i64 x.1), (5, x.2.2.1), (0, .pointer (some ⟨r, 0, none⟩)), (1, .func (.func 151) #[.pointer (some ⟨r, 0, none⟩)] #[])]) (fun x => bh x.2.2.1 x.2.1 :: blk r 240 #[.slice A bs.length c, .int .i64 x.2.2.2] :: p :: fr) (fun x => FK.kF (FK.ec bs) x.1 x.2.1 x.2.2.2 = FK.dB bs (FK.ec bs) q ∧ x.2.2.2 ≤ bs.length ∧ (∀ y ∈ x.2.1, 0 ≤ y ∧ y < 2097152) ∧ x.2.1.length + x.1 ≤ 2097152) (fun x => x.1) (n, [], .slice none 0 0, q1) ⟨(pk hn).symm, hn3, by simp, by simp; omega⟩ ⟨rfl, rfl, rfl, rfl, trivial⟩ Ent.row0 ?_
 rintro ⟨k, xs, v5, q2⟩ ⟨hm, hq2, hb, hlen⟩
 simp only at hm hq2 hb hlen ⊢
 refine At.seq (At.seq (At.region (L.mv Z Z (L.pure Z (dZ Z Z Z) (L.nil (At.then ?_))))))
 refine aC Z (fun c10 => ?_) (fun c10 => ?_)
 ·
  obtain ⟨k, rfl⟩ : ∃ j, k = j + 1 := ⟨k - 1, by omega⟩
  refine At.skip (At.then (At.seq (At.block (At.region (L.mv Z Z (L.mv Z Z ?_))))))
  refine L.op Z (rA Z Z Z Z hE (eT (c := c) hp hl r q2 hq2) (aK (.tail (.head)) (.tail (.head))) ?_ ?_)
  ·
   rintro c m ⟨e, q', he, rfl, rfl⟩
   refine aF (da (ce (iB (da (ce ?_)))))
   exact fR _ ⟨e, q', by rw [← hm, rC (lM he)], rfl, rfl⟩ (Ent.cons (Ent.cons Ent.drop))
  rintro v m ⟨y, q3, hy, rfl, rfl⟩
  refine aF ?_
  obtain ⟨hy1, hy2, hy3⟩ := FK.qY hy
  refine L.op Z (cK (z := .int .i64 0) Z Z Z Z Z Z fun b16 => ?_)
  refine L.op rfl (cj rfl rfl fy rfl (by omega) rfl rfl (.tail (.tail (.tail (.head)))) (news := [.int .i64 y]) rfl (fun h => by cases h) (f6 (fun j u h => by simpa using h)) (by simp [Value.oneCell']) (by unfold maxLen; omega) (by omega) fun v' hv' => ?_)
  refine L.as Z Z (L.nil (al (At.then (At.region (L.mv Z Z ?_)))))
  refine L.pure Z (eQ (r := (k : Int)) Z Z (by rw [cT (by omega)]; omega)) ?_
  refine L.as Z Z (L.nil ?_)
  exact At.round (k, xs ++ [(y : Int)], v', q3) ⟨by rw [← hm, pr (kU hy)], hy3, fun z hz => (by rcases List.mem_append.1 hz with h | h; exact hb z h; simp at h; omega), by simp only [List.length_append, List.length_cons, List.length_nil]; omega⟩ (by simp only; omega) ⟨rfl, rfl, rfl, rfl, trivial⟩ (by rw [mt]; exact Ent.cons Ent.drop)
 ·
  obtain rfl : k = 0 := by omega
  refine At.exit (au (ar (an (At.then (At.seq (At.region (L.mv Z Z (L.as Z Z (L.nil (At.then (At.ret ?_)))))))))))
  exact lc (.inl Z) (aA [_, _, _] rfl Z ⟨xs, q2, by rw [← hm, pq], hq2, hb, rfl⟩ (Ent.refl _))
def jP (xs : List Int) : Array Value := #[.int .i64 (xs.getD 0 0), .int .i64 (xs.getD 1 0), .int .i64 (xs.getD 2 0), .int .i64 (xs.getD 3 0), .int .i64 (xs.getD 4 0), .int .i64 (xs.getD 5 0), .slice none 0 0]
theorem sC : ∀ (xs : List Int) (x : Int), xs.length < 6 → (jP xs).setIfInBounds xs.length (.int .i64 x) = jP (xs ++ [x])
 | [], _, _ => rfl | [_], _, _ => rfl | [_, _], _, _ => rfl | [_, _, _], _, _ => rfl | [_, _, _, _], _, _ => rfl | [_, _, _, _, _], _, _ => rfl
 | _ :: _ :: _ :: _ :: _ :: _ :: _, _, h => by simp at h; omega
theorem oD (xs : List Int) (l : List Int) (v : Value) : (jP xs).setIfInBounds 6 v = (aw (FK.l8 xs l) v).toArray := rfl
theorem sh (nd : FK.Node) (v : Value) : eZ (aw nd v).toArray 0 (aw nd v) = (aw nd v).toArray := by simp [eZ, aw]
theorem wC {b : List UInt8} {k : Nat} {l : List Int} {q n q' : Nat} (h : FK.rd b q = .ok (n, q')) : FK.gq b (k + 1) l q = FK.gq b k (l ++ [(n : Int)]) q' := by simp only [FK.gq, kU h, FK.andThen]
theorem tX {b : List UInt8} {k : Nat} {l : List Int} {q e : Nat} (h : FK.rd b q = .error e) : FK.gq b (k + 1) l q = .error e := by simp only [FK.gq, lM h, FK.andThen]
theorem sw {b : List UInt8} {l : List Int} {q q' : Nat} {xs : List Int} (h : FK.dB b (FK.ec b) q = .ok (xs, q')) : FK.gq b 0 l q = .ok (FK.l8 l xs, q') := by simp only [FK.gq, h, FK.andThen]
theorem tY {b : List UInt8} {l : List Int} {q e : Nat} (h : FK.dB b (FK.ec b) q = .error e) : FK.gq b 0 l q = .error e := by simp only [FK.gq, h, FK.andThen]
def Small (nd : FK.Node) : Prop := (∀ x ∈ kE nd, 0 ≤ x ∧ x < 2097152) ∧ ∀ x ∈ nd.after, 0 ≤ x ∧ x < 2097152
theorem Small.i64 {nd : FK.Node} (h : Small nd) : (i64 nd.budget ∧ i64 nd.close ∧ i64 nd.beat ∧ i64 nd.base ∧ i64 nd.cap ∧ i64 nd.jitter) ∧ ∀ x ∈ nd.after, i64 x := by
 have h0 := h.1
 simp only [kE, List.mem_cons, List.not_mem_nil, or_false, forall_eq_or_imp, forall_eq] at h0
 obtain ⟨a1, a2, a3, a4, a5, a6⟩ := h0
 unfold Go.Proofs.YtmeegfamopaljaaGreatDoor.i64
 exact ⟨⟨by omega, by omega, by omega, by omega, by omega, by omega⟩, fun x hx => by have := h.2 x hx; omega⟩
theorem ut {xs : List Int} (h : ∀ x ∈ xs, 0 ≤ x ∧ x < 2097152) (i : Nat) : 0 ≤ xs.getD i 0 ∧ xs.getD i 0 < 2097152 := by
 rw [List.getD_eq_getElem?_getD]
 cases hx : xs[i]? with
 | none => simp
 | some x => simpa using h x (List.mem_of_getElem? hx)
set_option maxRecDepth 10000 in
theorem su {p : HP} {A : Option Addr} {c : Nat} {bs : List UInt8} (hp : Reads p A bs) (hl : bs.length ≤ 1099511627776) (r q : Nat) (hq : q ≤ bs.length) :
 DoesX Tryz.prog G 153 [.pointer (some ⟨r, 0, none⟩)].toArray [blk r 240 #[.slice A bs.length c, .int .i64 q], p]
  (fun u m => ∃ (nd : FK.Node) (v : Value) (q' : Nat), FK.fw bs q = .ok (nd, q') ∧ q' ≤ bs.length ∧ Small nd ∧ u = .agg (aw nd v).toArray ∧ m = [bh v nd.after, blk r 240 #[.slice A bs.length c, .int .i64 q'], p])
  (fun x m => ∃ e q' : Nat, FK.fw bs q = .error e ∧ x = uU e ∧ m = [blk r 240 #[.slice A bs.length c, .int .i64 q'], p]) := by
 refine DoesX.body Tryz.func153 Z Z fun E fr hE => ?_
 refine aF (At.seq (At.region (L.op Z (aH (z := .agg #[.int .i64 0, .int .i64 0, .int .i64 0, .int .i64 0, .int .i64 0, .int .i64 0, .slice none 0 0]) Z Z fun b2 => (L.nil (At.then (At.seq (At.seq (At.region (L.op Z (ah Z Z Z hE (mC b2) (Ent.refl _) ?_)))))))))))
 rintro v m ⟨rfl, rfl⟩
 refine ay (L.mv Z Z (L.nil (At.then (At.block ?_))))
 refine aT (X := List Int × Nat) (fun x => [(6, .int .i64 (x.1.length : Nat)), (5, .agg (eE b2 0)), (2, .pointer (some ⟨b2, 0, none⟩)), (0, .pointer (some ⟨r, 0, none⟩))]) (fun x => blk b2 46 (jP x.1) :: blk r 240 #[.slice A bs.length c, .int .i64 x.2] :: p :: fr) (fun x => x.1.length ≤ 6 ∧ FK.gq bs (6 - x.1.length) x.1 x.2 = FK.fw bs q ∧ x.2 ≤ bs.length ∧ ∀ y ∈ x.1, 0 ≤ y ∧ y < 2097152) (fun x => 6 - x.1.length) ([], q) ⟨by simp, (FK.sx bs q).symm, hq, by simp⟩ ⟨rfl, rfl, rfl, rfl, trivial⟩ (Ent.refl _) ?_
 rintro ⟨xs, q1⟩ ⟨hx6, hx, hq1, hb⟩
 simp only at hx6 hx hq1 hb ⊢
 refine At.seq (At.region (L.pure Z (bf Z Z Z) (L.nil (At.then (At.seq ?_)))))
 refine aC Z (fun c7 => ?_) (fun c7 => ?_)
 ·
  have hj6 : xs.length < 6 := by omega
  have hsucc : 6 - xs.length = (5 - xs.length) + 1 := by omega
  refine At.skip (At.then (At.seq (At.block (At.seq (At.region (L.pure Z (nC Z Z Z Z Z hj6 (vi b2 xs.length hj6)) (L.as Z Z (L.nil (At.then (At.region (L.mv Z Z (L.mv Z Z ?_))))))))))))
  refine L.op Z (jN Z Z Z hE (eT (c := c) hp hl r q1 hq1) (aK (.tail (.head)) (.tail (.head))) ?_ ?_)
  ·
   rintro c m ⟨e, q', he, rfl, rfl⟩
   refine aF (da (ce (iB (da (ce ?_)))))
   exact fR _ ⟨e, q', by rw [← hx, hsucc, tX he], rfl, rfl⟩ (Ent.cons (Ent.cons Ent.drop))
  rintro v m ⟨y, q3, hy, rfl, rfl⟩
  refine aF ?_
  obtain ⟨hy1, hy2, hy3⟩ := FK.qY hy
  refine aN Z Z ?_
  refine L.st Z Z Z Z (by simp [jP]; omega) ?_
  rw [sC xs y hj6]
  refine L.nil (al (At.then (At.region ?_)))
  refine L.pure Z (aO (r := ((xs ++ [(y : Int)]).length : Nat)) Z Z (by rw [cT (by omega)]; simp)) ?_
  refine L.mv Z Z (L.nil ?_)
  exact At.round (xs ++ [(y : Int)], q3) ⟨by simp only [List.length_append, List.length_cons, List.length_nil]; omega, by rw [← hx, hsucc, wC hy]; simp only [List.length_append, List.length_cons, List.length_nil]; rw [show 6 - (xs.length + (0 + 1)) = 5 - xs.length by omega], hy3, fun z hz => (by rcases List.mem_append.1 hz with h | h; exact hb z h; simp at h; omega)⟩ (by simp only [List.length_append, List.length_cons, List.length_nil]; omega) ⟨rfl, rfl, rfl, rfl, trivial⟩ (Ent.refl _)
 ·
  have h6 : xs.length = 6 := by omega
  rw [h6] at hx
  refine At.exit (au (ar (an (At.then (At.seq (At.region (L.mv Z Z (L.mv Z Z ?_))))))))
  refine L.pure Z (ea Z Z) ?_
  refine L.op Z (jN Z Z Z hE (zk (c := c) hp hl r q1 hq1) (aK (.tail (.head)) (.tail (.head))) ?_ ?_)
  ·
   rintro c m ⟨e, q', he, rfl, rfl⟩
   refine aF (ce ?_)
   exact fR _ ⟨e, q', by rw [← hx, tY he], rfl, rfl⟩ (Ent.cons (Ent.cons Ent.drop))
  rintro v m ⟨l, q3, hy, hq3, hlb, rfl⟩
  refine cu (aJ .head ?_)
  rintro A6 c6 rfl _ _ _ _ _
  refine aE 6 Z Z Z ?_
  refine L.st Z Z Z Z (by simp [jP]) ?_
  rw [oD xs l]
  refine L.nil (At.then (At.seq (At.region (L.val Z (am (vs := aw (FK.l8 xs l) (.slice A6 l.length c6)) Z Z Z Z) (av Z) ?_))))
  refine L.op Z (aG Z (m := 7) (vs := aw (FK.l8 xs l) (.slice A6 l.length c6)) Z Z Z Z (by simp [aw, Value.oneCell']) (by simp [aw]) ?_)
  rw [sh]
  refine L.nil (At.then (At.ret ?_))
  exact lc (.inl rfl) (m2 [_, _, _] rfl (bU (vs := aw (FK.l8 xs l) (.slice A6 l.length c6)) rfl rfl rfl rfl (av rfl)) ⟨FK.l8 xs l, _, q3, by rw [← hx]; exact sw hy, hq3, ⟨fun x hx => by simp only [kE, FK.l8, List.mem_cons, List.not_mem_nil, or_false] at hx; rcases hx with rfl | rfl | rfl | rfl | rfl | rfl <;> exact ut hb _, hlb⟩, rfl, rfl⟩ Ent.drop)
end Go.Proofs.YtmeegfamopaljaaGreatDoor
