/- Rows that are owned: append; calls that only read; slices cut. -/
import Derived.Test.YtagkobkmaigfcaaDoorAlD
import Derived.Test.YtagkobkmaigfcaaDoorChecked
import Derived.WalkKit
import Derived.WalkLawsBesides
import Derived.WalkSpells
import Derived.Outline
import Derived.BigQuiet
import Derived.Deep.QuietTactic
import Derived.Deep.Draws
import Derived.RegionTactic
import Derived.ChangeAlike
import Derived.Below
import Derived.Lib.Hide
import Derived.WalkSmall
import Derived.Laws.OwnMore
import Derived.Laws.Rows
import Derived.Test.YtagkobkmaigfcaaDoorAlA
import Derived.Maps.AppendAt
import Derived.OwnWalk
import Derived.Laws.BitsAllLaws
import Derived.Shelf.Spec.TrailingZeros
namespace Go.SL
open Go Go.RowKit

/-- a slice that is owned whole: its first n elements are the cells xs -/
def row (e : TypeId) (size : Nat) (v : Value) (n : Nat) (xs : List Value) : HP where
  sat w F := w.ownsRow 0 e size v n xs ∧ ∀ k, v.ownBlock = some k → F k
  loc {w w' F G} hFG hk h := by
    obtain ⟨⟨h1, h2⟩, h3⟩ := h
    refine ⟨⟨h1, ?_⟩, fun k hk' => hFG _ (h3 k hk')⟩
    rcases h2 with h2 | ⟨g, cap, cur, rfl, hb, hg, rest⟩
    · exact .inl h2
    · exact .inr ⟨g, cap, cur, rfl, hb, (hk g (h3 g rfl)).trans hg, rest⟩

theorem Ent.row0 {e : TypeId} {size : Nat} {l : List HP} : Ent l (row e size (.slice none 0 0) 0 [] :: l) := fun w F s =>
  ⟨fun _ => False, F, fun _ h => h.elim, fun _ h => h, fun _ h => h.elim, ⟨World.ownsRow_nil _ _ _ _, fun k hk => by simp [Value.ownBlock] at hk⟩, s⟩

section
variable {P : Program} {E : Env} {n : Nat} {D : List Deferred} {ts : List (Nat × Value)} {l : List HP} {ops : Array Oper} {Q : Exit → Act → World → Prop} {rest : List Oper} {i : Nat} {ty : TypeId} {pos : String} {af : Array Edge} {g : Option (Nat × Bool)}

theorem Holds.row {w : World} {r : List HP} {e : TypeId} {size : Nat} {v : Value} {m : Nat} {xs : List Value} (h : Holds E w l) (s : Sel (row e size v m xs) l r) : w.ownsRow 0 e size v m xs := by
  obtain ⟨F1, F2, h1, _, _, hp, _⟩ := (h.sel s).star
  exact hp.1

/-- a row grown -/
theorem Holds.grown {w w' : World} {r : List HP} {e e' : TypeId} {size size' : Nat} {v v' : Value} {m m' : Nat} {xs xs' : List Value} (h : Holds E w (SL.row e size v m xs :: r)) (hg : w.grownBy w' v.ownBlock) (ho : w'.ownsRow 0 e' size' v' m' xs')
    (hm : v'.ownBlock = v.ownBlock ∨ ∃ k, v'.ownBlock = some k ∧ w.heap.size ≤ k) : Holds E w' (SL.row e' size' v' m' xs' :: r) := by
  refine h.turn hg.os hg.tape hg.output hg.size fun F1 hp hF => ⟨fun k => v'.ownBlock = some k, fun k hk => ⟨?_, (ho.lt k hk).2⟩, ⟨ho, fun k hk => hk⟩, fun k hk hnk => hg.block k hk fun hkv => hnk (hp.2 k hkv.symm)⟩
  rcases hm with hm | ⟨j, hj, hge⟩
  · exact .inl (hp.2 k (hm ▸ hk))
  · rw [hj] at hk
    injection hk with hk
    subst hk
    exact .inr hge

/-- how a type's elements lie: zero value, cells, bytes -/
def elemIs (P : Program) (e : TypeId) (z : Value) (size bytes : Nat) : Prop := (P.info? e).map (fun i => (i.zero, i.size, i.bytes)) = some (some z, size, bytes)

/-- a row's element, of a block that is held -/
def SrcIs (A : Option Addr) (news : List Value) (w : World) : Prop := ∀ ad, A = some ad → ∀ j u, news[j]? = some u → w.cell? (ad.add j) = some u

theorem run_app_nothing {w : World} (t tty e : TypeId) (j : TypeInfo) (size : Nat) (ht : P.underlying t = some (.slice e)) (hi : P.info? e = some j)
    (v : Value) (m : Nat) (xs : List Value) (hown : w.ownsRow 0 e size v m xs) (c : Nat) : (Builtin.append_ #[t, t] tty #[v, .slice none 0 c]).run P w = .ok v w := by
  rcases hown.2 with ⟨rfl, rfl⟩ | ⟨g, cap, cur, rfl, _, _, hnc, _⟩
  · simp [Builtin.append_, run_underlying ht, sizeOf, typeInfo, hi, Builtin.lenOf, Builtin.firstCells]
  · simp [Builtin.append_, run_underlying ht, sizeOf, typeInfo, hi, Builtin.lenOf, Builtin.firstCells, hnc, storeCells]

/-- append onto a row that is owned -/
theorem o_append {s x : Operand} {t e : TypeId} {z : Value} {size bytes : Nat} {v : Value} {k : Nat} {xs : List Value} {A : Option Addr} {m c : Nat} {news : List Value} {r : List HP} {K : Act → World → Prop} (hi : Nat.blt i n = true) (ht : P.underlying t = some (.slice e)) (hel : elemIs P e z size bytes) (hzs : z.cells.size = size) (hsz : 0 < size)
    (hs : ev ts s = some v) (hx : ev ts x = some (.slice A m c)) (hsel : Sel (row e size v k xs) l r) (hl : news.length = m * size) (hnil : A = none → m = 0) (hnews : ∀ w, Holds E w l → SrcIs A news w) (h1 : ∀ u ∈ news, u.oneCell' = true)
    (hmax : k + m ≤ maxLen) (hby : (k + m) * bytes ≤ 140737488355328)
    (h : ∀ v', (v' = .slice none 0 0 ↔ v = .slice none 0 0 ∧ m = 0) → At E n D ((i, v') :: ts) (row e size v' (k + m) (xs ++ news) :: r) K) :
    At E n D ts l (fun a w => (Oper.mk (some i) (.call { callee := .builtin .append, args := #[s, x], argTypes := #[t, t] }) ty pos af g).wp P a w K Q) := fun a w f hw => by
  obtain ⟨ti, hti, e0, e1, e2⟩ := info_parts hel
  have hown := hw.row hsel
  have hsel' := hw.sel hsel
  have hsrc := hnews w hw
  have hev : ∃ v' w', (execOp a.eval (Oper.mk (some i) (.call { callee := .builtin .append, args := #[s, x], argTypes := #[t, t] }) ty pos af g)).run P w = .ok (.value v') w' ∧ w'.ownsRow 0 e size v' (k + m) (xs ++ news) ∧ w.grownBy w' v.ownBlock ∧ (v' = .slice none 0 0 ↔ v = .slice none 0 0 ∧ m = 0) ∧ (v'.ownBlock = v.ownBlock ∨ v'.ownBlock = some w.heap.size) := by
    rcases A with _ | ad
    · obtain rfl : m = 0 := hnil rfl
      obtain rfl : news = [] := List.eq_nil_of_length_eq_zero (by simpa using hl)
      have hr := run_app_nothing (P := P) (w := w) t ty e ti size ht hti v k xs hown c
      exact ⟨v, w, by simp [execOp, resolve, invoke, builtin, f.eval hs, f.eval hx, hr], by simpa using hown, World.grownBy.refl w _, by simp, .inl rfl⟩
    · obtain ⟨v', w', hr, h2, h3, h4, h5⟩ := run_append_own_at (P := P) w 0 t ty e ti z size bytes ht hti e0 e1 e2 hzs hsz v k xs hown ad m c news hl (hsrc ad rfl) h1 hmax hby (Nat.zero_le _)
      exact ⟨v', w', by simp [execOp, resolve, invoke, builtin, f.eval hs, f.eval hx, hr], h2, h3, h4, h5⟩
  obtain ⟨v', w', hr, h2, h3, h4, h5⟩ := hev
  unfold Oper.wp
  rw [hr]
  exact h v' h4 _ w' (f.put i (Nat.le_of_ble_eq_true hi) v') (Holds.grown hsel' h3 h2 (h5.imp_right fun h => ⟨_, h, Nat.le_refl _⟩))

theorem srcIs {b o : Nat} {tb : TypeId} {cs : Array Value} {fz : Nat × Nat} {r : List HP} {news : List Value} [h : Has b l (.cells cs tb fz) r] (hv : ∀ j u, news[j]? = some u → cs[o + j]? = some u) : ∀ w, Holds E w l → SrcIs (some ⟨b, o, none⟩) news w := fun w hw ad had j u hj => by
  injection had with had
  subst had
  rw [add_plain]
  exact rowIs hv w hw j u hj
theorem srcNil : ∀ w, Holds E w l → SrcIs none [] w := fun _ _ _ h => by cases h

/-- a new slice of elements that are written out -/
theorem o_slices {t e : TypeId} {m : Nat} {z : Value} {size : Nat} {ps : List (Nat × Operand)} {vs : List Value} {cs : Array Value} {K : Act → World → Prop} (hi : Nat.blt i n = true) (ht : P.underlying t = some (.slice e)) (hz : sizeIs P e size) (hzz : zeroIs P e z) (h0 : 0 < m * size) (hm : m * size ≤ 16777216)
    (hx : evs ts (ps.map (·.2)) = some vs) (hf : Instr.fill (fun i => some (i * size, size)) ((Array.range (m * size)).map (z.cells[· % z.cells.size]!)) ((ps.map (·.1)).zip vs) = some cs)
    (h : ∀ b, At E n D ((i, .slice (some ⟨b, 0, none⟩) m m) :: ts) (blk b e cs :: l) K) : At E n D ts l (fun a w => (Oper.mk (some i) (.buildSlice t m ps.toArray) ty pos af g).wp P a w K Q) := fun a w f hw => by
  have hp : (ps.toArray.map fun p => (p.1, a.eval p.2)).toList = (ps.map (·.1)).zip vs := by
    have := evs_eval f.knows hx
    rw [← this]
    simp
    clear hx hf this h0 hm
    induction ps with
    | nil => rfl
    | cons p ps ih => simp; exact ih
  have hr : (execOp a.eval (Oper.mk (some i) (.buildSlice t m ps.toArray) ty pos af g)).run P w = .ok (.value (.slice (some ⟨w.heap.size, 0, none⟩) m m)) (w.alloc (.cells cs e)) := by
    simp only [execOp, Instr.buildSlice, Sem.run_bind, run_underlying ht, Result.andThen_ok, run_sizeIs hz, hp]
    rw [if_neg (by omega), if_neg (by omega)]
    simp [run_zeroIs hzz, hf, newRow]
  show (Oper.mk (some i) (.buildSlice t m ps.toArray) ty pos af g).wp P a w K Q
  unfold Oper.wp
  rw [hr]
  exact h _ _ _ (f.put i (Nat.le_of_ble_eq_true hi) _) (hw.alloc _)

/-- one element in one cell -/
theorem o_slice1 {t e : TypeId} {z : Value} {x : Operand} {v : Value} {K : Act → World → Prop} (hi : Nat.blt i n = true) (ht : P.underlying t = some (.slice e)) (hz : sizeIs P e 1) (hzz : zeroIs P e z) (hx : ev ts x = some v) (hv : v.oneCell' = true)
    (h : ∀ b, At E n D ((i, .slice (some ⟨b, 0, none⟩) 1 1) :: ts) (blk b e #[v] :: l) K) : At E n D ts l (fun a w => (Oper.mk (some i) (.buildSlice t 1 #[(0, x)]) ty pos af g).wp P a w K Q) :=
  o_slices (ps := [(0, x)]) (vs := [v]) (cs := #[v]) hi ht hz hzz (by omega) (by omega) (by simp [evs, hx]) (by
    have e1 : Array.range (1 * 1) = #[0] := rfl
    rw [e1]
    simp [Instr.fill, cells_one hv]) h

/-- a call that only reads, or makes memory that is forgotten -/
theorem o_read {f : FuncId} {xs : List Operand} {at_ : Array TypeId} {args : List Value} {R : Value → Prop} {K : Act → World → Prop} (hi : Nat.blt i n = true) (hb : hasBody P f = true) (hx : evs ts xs = some args)
    (hs : ∀ w, Holds E w l → Calls P f args.toArray w fun e w' => ∃ v, e = .returned v ∧ R v ∧ Below w.heap.size w w') (h : ∀ v, R v → At E n D ((i, v) :: ts) l K) :
    At E n D ts l (fun a w => (Oper.mk (some i) (.call { callee := .value (.func f), args := xs.toArray, argTypes := at_ }) ty pos af g).wp P a w K Q) := fun a w ft hw => by
  have := evs_eval ft.knows hx
  have hr : (execOp a.eval (Oper.mk (some i) (.call { callee := .value (.func f), args := xs.toArray, argTypes := at_ }) ty pos af g)).run P w = .ok (.enter f args.toArray) w := by
    simp [execOp, resolve, Deferred.ofValue, Act.eval, invoke, this, run_callFunc hb]
  show (Oper.mk (some i) (.call { callee := .value (.func f), args := xs.toArray, argTypes := at_ }) ty pos af g).wp P a w K Q
  unfold Oper.wp
  rw [hr]
  refine (hs w hw).mono fun e w' ⟨v, he, hR, hbel⟩ => ?_
  subst he
  exact h v hR _ w' (ft.put i (Nat.le_of_ble_eq_true hi) v) (hw.below hbel)

/-- the same of a contract: all that a contract without facts of its own promises -/
theorem Does.frame {G : Env → Prop} {f : FuncId} {args : Array Value} {pre : List HP} {R : Value → List HP → Prop} (h : Does P G f args pre R) (c : List HP) : Does P G f args (pre ++ c) fun v m => ∃ m', R v m' ∧ m = m' ++ c := fun E w fr hE hw => by
  rw [List.append_assoc] at hw
  refine (h E w _ hE hw).mono fun e w' ⟨v, m, he, hR, hh⟩ => ⟨v, m ++ c, he, ⟨m, hR, rfl⟩, ?_⟩
  rw [List.append_assoc]
  exact hh

theorem run_loadVar1 {t : TypeId} {p : Addr} {v : Value} {w : World} (hd : isAggB P t = some false) (hc : w.cell? p = some v) : (loadVar t p).run P w = .ok v w := by
  simp [loadVar, run_isAggB hd, hc]
theorem run_loadVarN {t : TypeId} {b o m : Nat} {vs : List Value} {w : World} (hd : isAggB P t = some true) (hz : sizeIs P t m) (hm : vs.length = m) (hc : RowIs b o vs w) : (loadVar t ⟨b, o, none⟩).run P w = .ok (.agg vs.toArray) w := by
  subst hm
  have := run_loadCellsFrom (P := P) vs 0 #[] (fun j v hj => by simpa using hc j v hj)
  simp [loadVar, run_isAggB hd, run_sizeIs hz, loadCells, this]

/-- an element of an array that is a value -/
theorem ev_index {t e : TypeId} {x y : Operand} {k : IntKind} {j len : Nat} {cs : Array Value} {v : Value} (ht : P.underlying t = some (.array len e)) (hd : isAggB P e = some false) (hz : sizeIs P e 1) (hx : ev ts x = some (.agg cs)) (hy : ev ts y = some (.int k (j : Int))) (hj : j < len) (hv : cs[j]? = some v) :
    Ev P ts (.index t x y) v Any := by
  intro a w _ _ _ _ _ kn _
  simp [execOp, kn.eval hx, kn.eval hy, Instr.index, asIntOf, run_underlying ht, run_sizeIs hz, part, run_isAggB hd, hv]
  intro h; omega

theorem Ent.sel {p : HP} {r : List HP} (s : Sel p l r) : Ent l (p :: r) := Ent.perm s.perm
theorem Ent.sel2 {p q : HP} {r r' : List HP} (s : Sel p l r) (s' : Sel q r r') : Ent l (p :: q :: r') := (Ent.sel s).trans (Ent.cons (Ent.sel s'))
theorem Ent.sel3 {p q u : HP} {r r' r'' : List HP} (s : Sel p l r) (s' : Sel q r r') (s'' : Sel u r' r'') : Ent l (p :: q :: u :: r'') := (Ent.sel s).trans (Ent.cons (Ent.sel2 s' s''))
theorem Ent.drop1 {p : HP} {r : List HP} (s : Sel p l r) : Ent l r := (Ent.sel s).trans Ent.drop
/-- an object to the front -/
theorem Ent.ob (b : Nat) {o : Obj} {r : List HP} [h : Has b l o r] : Ent l (SL.ob b o :: r) := Ent.sel h.sel

/-- slices cut -/
theorem ev_slice {t e : TypeId} {x : Operand} {lo hi : Option Operand} {A : Option Addr} {len cap a b z : Nat} (ht : P.underlying t = some (.slice e)) (hz : sizeIs P e z) (hx : ev ts x = some (.slice A len cap))
    (hlo : match lo with | some o => ∃ k, ev ts o = some (.int k (a : Int)) | none => a = 0) (hhi : match hi with | some o => ∃ k, ev ts o = some (.int k (b : Int)) | none => b = len) (h1 : a ≤ b) (h2 : b ≤ cap) :
    Ev P ts (.slice t x lo hi none) (.slice (if cap = a then A else A.map (·.add (a * z))) (b - a) (cap - a)) Any := by
  intro ac w _ _ _ _ _ kn _
  have hb : ((b : Int)).toNat = b := by omega
  have ha : ((a : Int)).toNat = a := by omega
  rcases lo with _ | lo <;> rcases hi with _ | hi
  · simp only at hlo hhi
    subst hlo; subst hhi
    simp [execOp, Instr.sliceAt, Instr.slice, run_underlying ht, kn.eval hx, Instr.sliceBounds, run_sizeIs hz]
  · obtain ⟨k, hk⟩ := hhi
    simp only at hlo
    subst hlo
    simp [execOp, Instr.sliceAt, Instr.slice, run_underlying ht, kn.eval hx, kn.eval hk, Instr.sliceBounds, Instr.sliceBound, asIntOf, run_sizeIs hz, h2]
  · obtain ⟨k, hk⟩ := hlo
    simp only at hhi
    subst hhi
    simp [execOp, Instr.sliceAt, Instr.slice, run_underlying ht, kn.eval hx, kn.eval hk, Instr.sliceBounds, Instr.sliceBound, asIntOf, run_sizeIs hz, h1]
  · obtain ⟨k, hk⟩ := hlo
    obtain ⟨k', hk'⟩ := hhi
    simp [execOp, Instr.sliceAt, Instr.slice, run_underlying ht, kn.eval hx, kn.eval hk, kn.eval hk', Instr.sliceBounds, Instr.sliceBound, asIntOf, run_sizeIs hz, h1, h2]
end
end Go.SL

/- How flows lie in memory: lists of integers, nodes, flows, bytes, as predicates on a world; kept while old blocks stand. -/
namespace Go.Proofs.YtagkobkmaigfcaaDoor
open Go Go.RowKit

theorem ret_int {k : IntKind} {a b : Int} (h : a = b) : Ending.returned (.int k a) = .returned (.int k b) := by rw [h]

def i64 (x : Int) : Prop := -9223372036854775808 ≤ x ∧ x ≤ 9223372036854775807

/-- all blocks below B stand as they did -/
def Same (B : Nat) (w w' : World) : Prop := ∀ k, k < B → w'.heap[k]? = w.heap[k]?

theorem Same.cell {B : Nat} {w w' : World} (h : Same B w w') {b o : Nat} (hb : b < B) : w'.cell? ⟨b, o, none⟩ = w.cell? ⟨b, o, none⟩ := World.cell?_of_block (w := w) (h b hb)
theorem Same.refl (B : Nat) (w : World) : Same B w w := fun _ _ => rfl
theorem Same.trans {B : Nat} {a b c : World} (h : Same B a b) (k : Same B b c) : Same B a c := fun i hi => (k i hi).trans (h i hi)
theorem Same.mono {B B' : Nat} {w w' : World} (h : Same B w w') (hB : B' ≤ B) : Same B' w w' := fun k hk => h k (Nat.lt_of_lt_of_le hk hB)
theorem _root_.Go.RowKit.Below.to_same {B : Nat} {w w' : World} (h : Below B w w') : Same B w w' := h.block

/-- a slice of integers: '.slice A l.length c' -/
structure IntsAt (w : World) (B : Nat) (A : Option Addr) (c : Nat) (l : List Int) : Prop where
  rng : ∀ x ∈ l, i64 x
  len : l.length ≤ c
  cap : c ≤ 9223372036854775807
  cells : 0 < l.length → ∃ b off, A = some ⟨b, off, none⟩ ∧ b < B ∧ ∀ i x, l[i]? = some x → w.cell? ⟨b, off + i, none⟩ = some (.int .i64 x)

/-- a node, in seven cells -/
structure NodeAt (w : World) (B b off : Nat) (n : FK.Node) : Prop where
  c0 : w.cell? ⟨b, off, none⟩ = some (.int .i64 n.budget)
  c1 : w.cell? ⟨b, off + 1, none⟩ = some (.int .i64 n.close)
  c2 : w.cell? ⟨b, off + 2, none⟩ = some (.int .i64 n.beat)
  c3 : w.cell? ⟨b, off + 3, none⟩ = some (.int .i64 n.base)
  c4 : w.cell? ⟨b, off + 4, none⟩ = some (.int .i64 n.cap)
  c5 : w.cell? ⟨b, off + 5, none⟩ = some (.int .i64 n.jitter)
  c6 : ∃ A c, w.cell? ⟨b, off + 6, none⟩ = some (.slice A n.after.length c) ∧ IntsAt w B A c n.after
  rng : i64 n.budget ∧ i64 n.close ∧ i64 n.beat ∧ i64 n.base ∧ i64 n.cap ∧ i64 n.jitter

/-- a slice of nodes: '.slice A l.length c' -/
structure NodesAt (w : World) (B : Nat) (A : Option Addr) (c : Nat) (l : List FK.Node) : Prop where
  len : l.length ≤ c
  cap : c ≤ 9223372036854775807
  cells : 0 < l.length → ∃ b off, A = some ⟨b, off, none⟩ ∧ b < B ∧ ∀ i n, l[i]? = some n → NodeAt w B b (off + i * 7) n

section
variable {w w' : World} {B B' : Nat} {A : Option Addr} {c : Nat}
theorem IntsAt.keep {l : List Int} (h : IntsAt w B A c l) (s : Same B w w') : IntsAt w' B A c l := by
  obtain ⟨h0, h1, h2, h3⟩ := h
  refine ⟨h0, h1, h2, fun hl => ?_⟩
  obtain ⟨b, off, rfl, hb, hc⟩ := h3 hl
  exact ⟨b, off, rfl, hb, fun i x hx => by rw [s.cell hb]; exact hc i x hx⟩
theorem IntsAt.more {l : List Int} (h : IntsAt w B A c l) (hB : B ≤ B') : IntsAt w B' A c l := by
  obtain ⟨h0, h1, h2, h3⟩ := h
  refine ⟨h0, h1, h2, fun hl => ?_⟩
  obtain ⟨b, off, rfl, hb, hc⟩ := h3 hl
  exact ⟨b, off, rfl, by omega, hc⟩
theorem NodeAt.keep {b off : Nat} {n : FK.Node} (h : NodeAt w B b off n) (s : Same B w w') (hb : b < B) : NodeAt w' B b off n := by
  obtain ⟨c0, c1, c2, c3, c4, c5, ⟨A, c, hv, hi⟩, hr⟩ := h
  exact ⟨by rw [s.cell hb]; exact c0, by rw [s.cell hb]; exact c1, by rw [s.cell hb]; exact c2, by rw [s.cell hb]; exact c3, by rw [s.cell hb]; exact c4, by rw [s.cell hb]; exact c5, ⟨A, c, by rw [s.cell hb]; exact hv, hi.keep s⟩, hr⟩
theorem NodeAt.more {b off : Nat} {n : FK.Node} (h : NodeAt w B b off n) (hB : B ≤ B') : NodeAt w B' b off n := by
  obtain ⟨c0, c1, c2, c3, c4, c5, ⟨A, c, hv, hi⟩, hr⟩ := h
  exact ⟨c0, c1, c2, c3, c4, c5, ⟨A, c, hv, hi.more hB⟩, hr⟩
theorem NodesAt.keep {l : List FK.Node} (h : NodesAt w B A c l) (s : Same B w w') : NodesAt w' B A c l := by
  obtain ⟨h1, h2, h3⟩ := h
  refine ⟨h1, h2, fun hl => ?_⟩
  obtain ⟨b, off, rfl, hb, hc⟩ := h3 hl
  exact ⟨b, off, rfl, hb, fun i x hx => (hc i x hx).keep s hb⟩
theorem NodesAt.more {l : List FK.Node} (h : NodesAt w B A c l) (hB : B ≤ B') : NodesAt w B' A c l := by
  obtain ⟨h1, h2, h3⟩ := h
  refine ⟨h1, h2, fun hl => ?_⟩
  obtain ⟨b, off, rfl, hb, hc⟩ := h3 hl
  exact ⟨b, off, rfl, by omega, fun i x hx => (hc i x hx).more hB⟩
end
end Go.Proofs.YtagkobkmaigfcaaDoor

/- Bytes in memory that the call made; numbers as bytes: the walks of flow.Number and of the document's number. -/
namespace Go.Proofs.YtagkobkmaigfcaaDoor
open Go Go.RowKit

def bytesV (l : List UInt8) : List Value := l.map fun b => .int .u8 b.toNat
theorem bytesV_length (l : List UInt8) : (bytesV l).length = l.length := by simp [bytesV]
theorem bytesV_append (a b : List UInt8) : bytesV (a ++ b) = bytesV a ++ bytesV b := by simp [bytesV]

/-- bytes that the call made: in a row from 'base' on -/
def OwnBytes (w : World) (base : Nat) (v : Value) (l : List UInt8) : Prop := w.ownsRow base 5 1 v l.length (bytesV l)

/-- where a row may have moved: it stays in its block, or lies in one from B on -/
def Moved (B : Nat) (v v' : Value) : Prop := v'.ownBlock = v.ownBlock ∨ ∃ k, v'.ownBlock = some k ∧ B ≤ k

theorem Moved.refl (B : Nat) (v : Value) : Moved B v v := .inl rfl
theorem Moved.trans {B : Nat} {a b c : Value} (h : Moved B a b) (k : Moved B b c) : Moved B a c := by
  rcases k with k | k
  · rcases h with h | ⟨x, h, hx⟩
    · exact .inl (k.trans h)
    · exact .inr ⟨x, k.trans h, hx⟩
  · exact .inr k
theorem Moved.mono {B B' : Nat} {a b : Value} (h : Moved B a b) (hB : B' ≤ B) : Moved B' a b := by
  rcases h with h | ⟨x, h, hx⟩
  · exact .inl h
  · exact .inr ⟨x, h, by omega⟩

theorem grown_step {w w1 w2 : World} {v v1 : Value} (h : w.grownBy w1 v.ownBlock) (m : Moved w.heap.size v v1) (k : w1.grownBy w2 v1.ownBlock) : w.grownBy w2 v.ownBlock := by
  refine ⟨k.os.trans h.os, k.tape.trans h.tape, k.output.trans h.output, Nat.le_trans h.size k.size, fun i hi hne => ?_⟩
  rw [k.block i (Nat.lt_of_lt_of_le hi h.size) ?_, h.block i hi hne]
  rcases m with m | ⟨x, hm, hx⟩
  · rw [m]; exact hne
  · rw [hm]; intro e; injection e with e; omega

theorem grown_below {w w' : World} {v : Value} {B : Nat} (h : w.grownBy w' v.ownBlock) (hv : ∀ k, v.ownBlock = some k → B ≤ k) (hB : B ≤ w.heap.size) : Below B w w' :=
  (Below.refl _ _).grown h hB hv

theorem Moved.ge {B : Nat} {v v' : Value} (h : Moved B v v') (hv : ∀ k, v.ownBlock = some k → B ≤ k) : ∀ k, v'.ownBlock = some k → B ≤ k := by
  intro k hk
  rcases h with h | ⟨x, h, hx⟩
  · exact hv k (h ▸ hk)
  · rw [hk] at h; injection h with h; omega

theorem infoByte : (Tryd.prog.info? 5).map (fun i => (i.zero, i.size, i.bytes)) = some (some (.int .u8 0), 1, 1) := by kernel_rfl

theorem encN_length_ten : ∀ (k n : Nat), n < 128 ^ k → 0 < k → (FK.encN n).length ≤ k := by
  intro k
  induction k with
  | zero => intro n _ h; omega
  | succ k ih =>
    intro n hn _
    by_cases h : n < 128
    · rw [FK.encN_lt h]; simp
    · rw [FK.encN_ge h]
      rcases Nat.eq_zero_or_pos k with h0 | h0
      · subst h0; simp at hn; omega
      · have := ih (n / 128) (by rw [Nat.div_lt_iff_lt_mul (by omega)]; rwa [Nat.pow_succ] at hn) h0
        simp; omega

theorem encN_le_ten {n : Nat} (h : n < 18446744073709551616) : (FK.encN n).length ≤ 10 := encN_length_ten 10 n (Nat.lt_of_lt_of_le h (by decide)) (by omega)

/-- what a call of Number leaves -/
def NumPost (w : World) (base : Nat) (v : Value) (l : List UInt8) (e : Ending) (w' : World) : Prop :=
  ∃ v', e = .returned v' ∧ OwnBytes w' base v' l ∧ w.grownBy w' v.ownBlock ∧ Moved w.heap.size v v'

theorem low_byte (m : Nat) : (m : Int) % 256 = ((UInt8.ofNat m).toNat : Int) := by
  simp

theorem or_128 (m : Nat) : bits BinOp.or IntKind.u8 ((m : Int) % 256) 128 = ((UInt8.ofNat (m % 128 + 128)).toNat : Int) := by
  have e1 : (m : Int) % 256 = ((m % 256 : Nat) : Int) := by omega
  rw [e1]
  have := u8_or_nat (m % 256) 128 (by omega) (by omega)
  rw [show ((128 : Int)) = ((128 : Nat) : Int) from rfl, this]
  have key : ∀ x : Fin 256, x.val ||| 128 = x.val % 128 + 128 := by decide +kernel
  have := key ⟨m % 256, by omega⟩
  simp only at this
  rw [this]
  have h2 : m % 256 % 128 = m % 128 := by omega
  rw [h2]
  simp
  omega

theorem byte_step {w wr w2 : World} {base : Nat} {v u0 v2 : Value} {l1 : List UInt8} {x : UInt8} {y : Int} {o : Obj} (hg : w.grownBy wr v.ownBlock) (hm : Moved w.heap.size v u0)
    (hown2 : w2.ownsRow base 5 1 v2 (l1.length + 1) (bytesV l1 ++ [.int .u8 y])) (hy : y = x.toNat) (hg2 : (wr.alloc o).grownBy w2 u0.ownBlock) (hat2 : v2.ownBlock = u0.ownBlock ∨ v2.ownBlock = some (wr.heap.size + 1)) :
    OwnBytes w2 base v2 (l1 ++ [x]) ∧ w.grownBy w2 v.ownBlock ∧ Moved w.heap.size v v2 := by
  subst hy
  have hs := hg.size
  refine ⟨?_, grown_step hg hm ((World.grownBy_alloc wr o u0.ownBlock).trans hg2), hm.trans ?_⟩
  · unfold OwnBytes
    rw [bytesV_append, List.length_append]
    exact hown2
  · rcases hat2 with h | h
    · exact .inl h
    · exact .inr ⟨_, h, by omega⟩

set_option maxRecDepth 10000 in
set_option maxHeartbeats 1000000 in
theorem flow_Number_calls (w : World) (base : Nat) (v : Value) (l : List UInt8) (n : Nat) (hn : n < 18446744073709551616) (hown : OwnBytes w base v l) (hl : l.length ≤ 1099511627776) (hbase : base ≤ w.heap.size) :
    Calls Tryd.prog 74 #[v, .int .u64 n] w (NumPost w base v (l ++ FK.encN n)) := by
  obtain ⟨i0, hi, hz0, hz1, hz2⟩ := info_parts infoByte
  have HL := Lib.hid (show (l ++ FK.encN n).length ≤ 1099511627786 by have := encN_le_ten hn; simp; omega)
  have HOWN := Lib.hid hown
  have HI := Lib.hid hi
  have HZ0 := Lib.hid hz0
  have HZ1 := Lib.hid hz1
  have HZ2 := Lib.hid hz2
  clear hown hi hz0 hz1 hz2
  go_enter Tryd.func74, Tryd.ntmps74
  go_wp2
  go_loopw [0, 1] (fun t s wr => ∃ (l1 : List UInt8) (m : Nat), s = .int .u64 m ∧ m < 18446744073709551616 ∧ l1 ++ FK.encN m = l ++ FK.encN n ∧ OwnBytes wr base t l1 ∧ w.grownBy wr v.ownBlock ∧ Moved w.heap.size v t) (fun _ s _ => (intOf s).toNat)
  case atStart => exact ⟨l, n, rfl, hn, rfl, HOWN.out, World.grownBy.refl _ _, .refl _ _⟩
  case round =>
    obtain ⟨l1, m, rfl, hm, he, hown, hg, hmv⟩ := hrel
    have HE := Lib.hid he
    have HG := Lib.hid hg
    have HM := Lib.hid hmv
    have hsz := hg.size
    have hlen : l1.length ≤ 1099511627786 := by
      have := congrArg List.length he
      have h2 := HL.out
      simp at this h2; omega
    clear he hg hmv
    by_cases hbig : 127 < m
    · have hor := or_128 m
      have HN := Lib.hid (FK.encN_ge (n := m) (by omega))
      obtain ⟨x, hx⟩ : ∃ x : UInt8, x = UInt8.ofNat (m % 128 + 128) := ⟨_, rfl⟩
      rw [← hx] at hor HN
      clear hx
      go_wp2_with (at_builtin; go_must (refine wpList_append_own_at _ rfl (.tmp 9) (.tmp 13) 36 rfl base 5 i0 (.int .u8 0) 1 1 Tryd.underlying36 HI.out HZ0.out HZ1.out HZ2.out rfl (by decide) u0 l1.length (bytesV l1) rfl (World.ownsRow.alloc hown _) ⟨wr.heap.size, 0, none⟩ 1 1 [.int .u8 x.toNat] rfl rfl (cell_one_new _ _ _) (by simp [Value.oneCell']) (by unfold maxLen; omega) (by omega) (by simp; omega) ?_); intro v2 w2 hown2 hg2 _ hat2)
      obtain ⟨h1, h2, h3⟩ := byte_step HG.out HM.out hown2 rfl hg2 (by simpa using hat2)
      have H1 := Lib.hid h1
      have H2 := Lib.hid h2
      have H3 := Lib.hid h3
      clear h1 h2 h3 hown2 hg2 hat2 hown
      go_roundw
      case rel => exact ⟨l1 ++ [x], m / 128, by go_num, by omega, by rw [← HE.out, HN.out]; simp, H1.out, H2.out, H3.out⟩
      case measure => simp [intOf]; omega
    · have hlow := low_byte m
      have HN := Lib.hid (FK.encN_lt (n := m) (by omega))
      obtain ⟨x, hx⟩ : ∃ x : UInt8, x = UInt8.ofNat m := ⟨_, rfl⟩
      rw [← hx] at hlow HN
      have hy : (m : Int) = x.toNat := by omega
      have HY := Lib.hid hy
      clear hx hlow hy
      go_wp2_with (at_builtin; go_must (refine wpList_append_own_at _ rfl (.tmp 15) (.tmp 18) 36 rfl base 5 i0 (.int .u8 0) 1 1 Tryd.underlying36 HI.out HZ0.out HZ1.out HZ2.out rfl (by decide) u0 l1.length (bytesV l1) rfl (World.ownsRow.alloc hown _) ⟨wr.heap.size, 0, none⟩ 1 1 [.int .u8 (m : Int)] rfl rfl (cell_one_new _ _ _) (by simp [Value.oneCell']) (by unfold maxLen; omega) (by omega) (by simp; omega) ?_); intro v2 w2 hown2 hg2 _ hat2)
      obtain ⟨h1, h2, h3⟩ := byte_step HG.out HM.out hown2 HY.out hg2 (by simpa using hat2)
      have H1 := Lib.hid h1
      have H2 := Lib.hid h2
      have H3 := Lib.hid h3
      clear h1 h2 h3 hown2 hg2 hat2 hown
      go_wp2
      go_ret
      exact ⟨v2, rfl, by rw [← HE.out, HN.out]; exact H1.out, H2.out, H3.out⟩

set_option maxRecDepth 10000 in
set_option maxHeartbeats 1000000 in
theorem ref_number_calls (w : World) (base : Nat) (v : Value) (l : List UInt8) (n : Nat) (hn : n < 9223372036854775808) (hown : OwnBytes w base v l) (hl : l.length ≤ 1099511627776) (hbase : base ≤ w.heap.size) :
    Calls Tryd.prog 55 #[v, .int .i64 n] w (NumPost w base v (l ++ FK.encN n)) := by
  obtain ⟨i0, hi, hz0, hz1, hz2⟩ := info_parts infoByte
  have HL := Lib.hid (show (l ++ FK.encN n).length ≤ 1099511627786 by have := encN_le_ten (n := n) (by omega); simp; omega)
  have HOWN := Lib.hid hown
  have HI := Lib.hid hi
  have HZ0 := Lib.hid hz0
  have HZ1 := Lib.hid hz1
  have HZ2 := Lib.hid hz2
  clear hown hi hz0 hz1 hz2
  go_enter Tryd.func55, Tryd.ntmps55
  go_wp2
  go_loopw [0, 1] (fun t s wr => ∃ (l1 : List UInt8) (m : Nat), s = .int .i64 m ∧ m < 9223372036854775808 ∧ l1 ++ FK.encN m = l ++ FK.encN n ∧ OwnBytes wr base t l1 ∧ w.grownBy wr v.ownBlock ∧ Moved w.heap.size v t) (fun _ s _ => (intOf s).toNat)
  case atStart => exact ⟨l, n, rfl, hn, rfl, HOWN.out, World.grownBy.refl _ _, .refl _ _⟩
  case round =>
    obtain ⟨l1, m, rfl, hm, he, hown, hg, hmv⟩ := hrel
    have HE := Lib.hid he
    have HG := Lib.hid hg
    have HM := Lib.hid hmv
    have hsz := hg.size
    have hlen : l1.length ≤ 1099511627786 := by
      have := congrArg List.length he
      have h2 := HL.out
      simp at this h2; omega
    clear he hg hmv
    by_cases hbig : 127 < m
    · have HN := Lib.hid (FK.encN_ge (n := m) (by omega))
      obtain ⟨x, hx⟩ : ∃ x : UInt8, x = UInt8.ofNat (m % 128 + 128) := ⟨_, rfl⟩
      have hy : (m : Int) % 128 + 128 = x.toNat := by rw [hx]; simp; omega
      rw [← hx] at HN
      have HY := Lib.hid hy
      clear hx hy
      go_wp2_with (at_builtin; go_must (refine wpList_append_own_at _ rfl (.tmp 7) (.tmp 12) 36 rfl base 5 i0 (.int .u8 0) 1 1 Tryd.underlying36 HI.out HZ0.out HZ1.out HZ2.out rfl (by decide) u0 l1.length (bytesV l1) rfl (World.ownsRow.alloc hown _) ⟨wr.heap.size, 0, none⟩ 1 1 [.int .u8 ((m : Int) % 128 + 128)] rfl rfl (cell_one_new _ _ _) (by simp [Value.oneCell']) (by unfold maxLen; omega) (by omega) (by simp; omega) ?_); intro v2 w2 hown2 hg2 _ hat2)
      obtain ⟨h1, h2, h3⟩ := byte_step HG.out HM.out hown2 HY.out hg2 (by simpa using hat2)
      have H1 := Lib.hid h1
      have H2 := Lib.hid h2
      have H3 := Lib.hid h3
      clear h1 h2 h3 hown2 hg2 hat2 hown
      go_wp2
      go_roundw
      case rel => exact ⟨l1 ++ [x], m / 128, by go_num, by omega, by rw [← HE.out, HN.out]; simp, H1.out, H2.out, H3.out⟩
      case measure => simp [intOf]; omega
    · have HN := Lib.hid (FK.encN_lt (n := m) (by omega))
      obtain ⟨x, hx⟩ : ∃ x : UInt8, x = UInt8.ofNat m := ⟨_, rfl⟩
      have hy : (m : Int) = x.toNat := by rw [hx]; simp; omega
      rw [← hx] at HN
      have HY := Lib.hid hy
      clear hx hy
      go_wp2_with (at_builtin; go_must (refine wpList_append_own_at _ rfl (.tmp 16) (.tmp 19) 36 rfl base 5 i0 (.int .u8 0) 1 1 Tryd.underlying36 HI.out HZ0.out HZ1.out HZ2.out rfl (by decide) u0 l1.length (bytesV l1) rfl (World.ownsRow.alloc hown _) ⟨wr.heap.size, 0, none⟩ 1 1 [.int .u8 (m : Int)] rfl rfl (cell_one_new _ _ _) (by simp [Value.oneCell']) (by unfold maxLen; omega) (by omega) (by simp; omega) ?_); intro v2 w2 hown2 hg2 _ hat2)
      obtain ⟨h1, h2, h3⟩ := byte_step HG.out HM.out hown2 HY.out hg2 (by simpa using hat2)
      have H1 := Lib.hid h1
      have H2 := Lib.hid h2
      have H3 := Lib.hid h3
      clear h1 h2 h3 hown2 hg2 hat2 hown
      go_wp2
      go_ret
      exact ⟨v2, rfl, by rw [← HE.out, HN.out]; exact H1.out, H2.out, H3.out⟩
end Go.Proofs.YtagkobkmaigfcaaDoor

/- math/bits.TrailingZeros: the place of the lowest bit that is set. -/
namespace Go.Proofs.YtagkobkmaigfcaaDoor
open Go Go.RowKit

/-- the library's table lies where its initialiser laid it -/
def Tab (w : World) : Prop := TabAt 1 Lib.deBruijn64tab w

theorem Tab.keep {B : Nat} {w w' : World} (h : Tab w) (s : Same B w w') (hB : 1 < B) : Tab w' := fun j hj => by rw [s.cell hB]; exact h j hj

set_option maxHeartbeats 1000000 in
theorem tz64_core (x k idx : Nat) (w : World) (hx0 : ((x : Int) == 0) = false)
    (key : IntKind.u64.wrap (bits BinOp.and IntKind.u64 (x : Int) (IntKind.u64.wrap (-(x : Int))) * 285870213051353865) / 288230376151711744 = (idx : Int))
    (hi : idx < 64) (hk : k < 64) (hcell : w.cell? ⟨1, idx, none⟩ = some (.int .u8 k)) :
    Calls Tryd.prog 89 #[.int .u64 x] w fun e w' => e = .returned (.int .i64 k) ∧ w = w' := by
  go_enter Tryd.func89, Tryd.ntmps89
  go_wp2_with (simp only [key])
  go_ret
  exact ⟨rfl, rfl⟩

theorem tz64_calls (x : Nat) (hx : x < 18446744073709551616) (hx0 : x ≠ 0) (w : World) (hT : Tab w) :
    Calls Tryd.prog 89 #[.int .u64 x] w fun e w' => e = .returned (.int .i64 (Lib.ctz 64 x)) ∧ w = w' := by
  obtain ⟨hlow, hk⟩ := Lib.lowest_bit 64 x hx0 hx
  obtain ⟨hi, htab⟩ := Lib.deBruijn64_at _ hk
  have hcell := hT _ hi
  rw [htab] at hcell
  exact tz64_core x _ _ w (by simp; omega) (tz64_key x _ hx hx0 hlow) hi hk hcell

set_option maxHeartbeats 400000 in
theorem tz_calls (x : Nat) (hx : x < 18446744073709551616) (hx0 : x ≠ 0) (w : World) (hT : Tab w) :
    Calls Tryd.prog 73 #[.int .u64 x] w fun e w' => e = .returned (.int .i64 (Lib.ctz 64 x)) ∧ w = w' := by
  have H := Lib.hid (tz64_calls x hx hx0)
  clear hx
  go_enter Tryd.func73, Tryd.ntmps73
  go_wp2_with (go_at_call 89; refine (H.out _ hT).mono ?_; rintro e w' ⟨rfl, rfl⟩)
  go_ret
  exact ⟨rfl, rfl⟩

/-- it is the lowest bit that is set -/
theorem ctz_low (x : Nat) (hx : x < 18446744073709551616) (hx0 : x ≠ 0) : x.testBit (Lib.ctz 64 x) = true ∧ (∀ j, j < Lib.ctz 64 x → x.testBit j = false) ∧ Lib.ctz 64 x < 64 := by
  unfold Lib.ctz
  rw [if_neg hx0]
  obtain ⟨m, hm, hk⟩ := Lib.ctzFrom_spec 64 x (by omega) (by simpa using hx)
  generalize Lib.ctzFrom 64 x = t at hm hk ⊢
  refine ⟨?_, ?_, hk⟩
  · rw [hm, Nat.mul_comm, Nat.testBit_mul_two_pow, Nat.sub_self, Nat.testBit_zero]; simp
  · intro j hj
    rw [hm, Nat.mul_comm, Nat.testBit_mul_two_pow]; simp; omega
end Go.Proofs.YtagkobkmaigfcaaDoor
