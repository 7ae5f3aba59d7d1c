/- Rows that are owned: append; calls that only read; slices cut. -/
import Derived.Test.YtmeegfamopaljaaGreatDoorFiG
import Derived.Test.YtmeegfamopaljaaGreatDoorChecked
import Derived.WalkKit
import Derived.WalkLawsBesides
import Derived.WalkSpells
import Derived.Outline
import Derived.BigQuiet
import Derived.Deep.QuietTactic
import Derived.Deep.Draws
import Derived.RegionTactic
import Derived.ChangeAlike
import Derived.Below
import Derived.Lib.Hide
import Derived.WalkSmall
import Derived.Laws.OwnMore
import Derived.Laws.Rows
import Derived.Test.YtmeegfamopaljaaGreatDoorFiA
import Derived.Maps.AppendAt
import Derived.OwnWalk
import Derived.Laws.BitsAllLaws
import Derived.Shelf.Spec.TrailingZeros
import Derived.ScopeJumps
import Derived.WalkMore
import Derived.Laws.MakeOwn
import Derived.LoopTactic
import Derived.Deep.OwnRows
import Derived.Deep.LoopGhost
namespace Go.SL
open Go Go.RowKit
def row (e : TypeId) (size : Nat) (v : Value) (n : Nat) (xs : List Value) : HP where
  sat w F := w.ownsRow 0 e size v n xs ∧ ∀ k, v.ownBlock = some k → F k
  loc {w w' F G} hFG hk h := by
    obtain ⟨⟨h1, h2⟩, h3⟩ := h
    refine ⟨⟨h1, ?_⟩, fun k hk' => hFG _ (h3 k hk')⟩
    rcases h2 with h2 | ⟨g, cap, cur, rfl, hb, hg, rest⟩
    · exact .inl h2
    · exact .inr ⟨g, cap, cur, rfl, hb, (hk g (h3 g rfl)).trans hg, rest⟩
theorem Ent.row0 {e : TypeId} {size : Nat} {l : List HP} : Ent l (row e size (.slice none 0 0) 0 [] :: l) := fun w F s =>
  ⟨fun _ => False, F, fun _ h => h.elim, fun _ h => h, fun _ h => h.elim, ⟨World.ownsRow_nil _ _ _ _, fun k hk => by simp [Value.ownBlock] at hk⟩, s⟩
section
variable {P : Program} {E : Env} {n : Nat} {D : List Deferred} {ts : List (Nat × Value)} {l : List HP} {ops : Array Oper} {Q : Exit → Act → World → Prop} {rest : List Oper} {i : Nat} {ty : TypeId} {pos : String} {af : Array Edge} {g : Option (Nat × Bool)}
theorem Holds.row {w : World} {r : List HP} {e : TypeId} {size : Nat} {v : Value} {m : Nat} {xs : List Value} (h : Holds E w l) (s : Sel (row e size v m xs) l r) : w.ownsRow 0 e size v m xs := by
  obtain ⟨F1, F2, h1, _, _, hp, _⟩ := (h.sel s).star
  exact hp.1
theorem Holds.grown {w w' : World} {r : List HP} {e e' : TypeId} {size size' : Nat} {v v' : Value} {m m' : Nat} {xs xs' : List Value} (h : Holds E w (SL.row e size v m xs :: r)) (hg : w.grownBy w' v.ownBlock) (ho : w'.ownsRow 0 e' size' v' m' xs')
    (hm : v'.ownBlock = v.ownBlock ∨ ∃ k, v'.ownBlock = some k ∧ w.heap.size ≤ k) : Holds E w' (SL.row e' size' v' m' xs' :: r) := by
  refine h.turn hg.os hg.tape hg.output hg.size fun F1 hp hF => ⟨fun k => v'.ownBlock = some k, fun k hk => ⟨?_, (ho.lt k hk).2⟩, ⟨ho, fun k hk => hk⟩, fun k hk hnk => hg.block k hk fun hkv => hnk (hp.2 k hkv.symm)⟩
  rcases hm with hm | ⟨j, hj, hge⟩
  · exact .inl (hp.2 k (hm ▸ hk))
  · rw [hj] at hk
    injection hk with hk
    subst hk
    exact .inr hge
def elemIs (P : Program) (e : TypeId) (z : Value) (size bytes : Nat) : Prop := (P.info? e).map (fun i => (i.zero, i.size, i.bytes)) = some (some z, size, bytes)
def SrcIs (A : Option Addr) (news : List Value) (w : World) : Prop := ∀ ad, A = some ad → ∀ j u, news[j]? = some u → w.cell? (ad.add j) = some u
theorem run_app_nothing {w : World} (t tty e : TypeId) (j : TypeInfo) (size : Nat) (ht : P.underlying t = some (.slice e)) (hi : P.info? e = some j)
    (v : Value) (m : Nat) (xs : List Value) (hown : w.ownsRow 0 e size v m xs) (c : Nat) : (Builtin.append_ #[t, t] tty #[v, .slice none 0 c]).run P w = .ok v w := by
  rcases hown.2 with ⟨rfl, rfl⟩ | ⟨g, cap, cur, rfl, _, _, hnc, _⟩
  · simp [Builtin.append_, run_underlying ht, sizeOf, typeInfo, hi, Builtin.lenOf, Builtin.firstCells]
  · simp [Builtin.append_, run_underlying ht, sizeOf, typeInfo, hi, Builtin.lenOf, Builtin.firstCells, hnc, storeCells]
theorem o_append {s x : Operand} {t e : TypeId} {z : Value} {size bytes : Nat} {v : Value} {k : Nat} {xs : List Value} {A : Option Addr} {m c : Nat} {news : List Value} {r : List HP} {K : Act → World → Prop} (hi : Nat.blt i n = true) (ht : P.underlying t = some (.slice e)) (hel : elemIs P e z size bytes) (hzs : z.cells.size = size) (hsz : 0 < size)
    (hs : ev ts s = some v) (hx : ev ts x = some (.slice A m c)) (hsel : Sel (row e size v k xs) l r) (hl : news.length = m * size) (hnil : A = none → m = 0) (hnews : ∀ w, Holds E w l → SrcIs A news w) (h1 : ∀ u ∈ news, u.oneCell' = true)
    (hmax : k + m ≤ maxLen) (hby : (k + m) * bytes ≤ 140737488355328)
    (h : ∀ v', (v' = .slice none 0 0 ↔ v = .slice none 0 0 ∧ m = 0) → At E n D ((i, v') :: ts) (row e size v' (k + m) (xs ++ news) :: r) K) :
    At E n D ts l (fun a w => (Oper.mk (some i) (.call { callee := .builtin .append, args := #[s, x], argTypes := #[t, t] }) ty pos af g).wp P a w K Q) := fun a w f hw => by
  obtain ⟨ti, hti, e0, e1, e2⟩ := info_parts hel
  have hown := hw.row hsel
  have hsel' := hw.sel hsel
  have hsrc := hnews w hw
  have hev : ∃ v' w', (execOp a.eval (Oper.mk (some i) (.call { callee := .builtin .append, args := #[s, x], argTypes := #[t, t] }) ty pos af g)).run P w = .ok (.value v') w' ∧ w'.ownsRow 0 e size v' (k + m) (xs ++ news) ∧ w.grownBy w' v.ownBlock ∧ (v' = .slice none 0 0 ↔ v = .slice none 0 0 ∧ m = 0) ∧ (v'.ownBlock = v.ownBlock ∨ v'.ownBlock = some w.heap.size) := by
    rcases A with _ | ad
    · obtain rfl : m = 0 := hnil rfl
      obtain rfl : news = [] := List.eq_nil_of_length_eq_zero (by simpa using hl)
      have hr := run_app_nothing (P := P) (w := w) t ty e ti size ht hti v k xs hown c
      exact ⟨v, w, by simp [execOp, resolve, invoke, builtin, f.eval hs, f.eval hx, hr], by simpa using hown, World.grownBy.refl w _, by simp, .inl rfl⟩
    · obtain ⟨v', w', hr, h2, h3, h4, h5⟩ := run_append_own_at (P := P) w 0 t ty e ti z size bytes ht hti e0 e1 e2 hzs hsz v k xs hown ad m c news hl (hsrc ad rfl) h1 hmax hby (Nat.zero_le _)
      exact ⟨v', w', by simp [execOp, resolve, invoke, builtin, f.eval hs, f.eval hx, hr], h2, h3, h4, h5⟩
  obtain ⟨v', w', hr, h2, h3, h4, h5⟩ := hev
  unfold Oper.wp
  rw [hr]
  exact h v' h4 _ w' (f.put i (Nat.le_of_ble_eq_true hi) v') (Holds.grown hsel' h3 h2 (h5.imp_right fun h => ⟨_, h, Nat.le_refl _⟩))
theorem srcIs {b o : Nat} {tb : TypeId} {cs : Array Value} {fz : Nat × Nat} {r : List HP} {news : List Value} [h : Has b l (.cells cs tb fz) r] (hv : ∀ j u, news[j]? = some u → cs[o + j]? = some u) : ∀ w, Holds E w l → SrcIs (some ⟨b, o, none⟩) news w := fun w hw ad had j u hj => by
  injection had with had
  subst had
  rw [add_plain]
  exact rowIs hv w hw j u hj
theorem o_slices {t e : TypeId} {m : Nat} {z : Value} {size : Nat} {ps : List (Nat × Operand)} {vs : List Value} {cs : Array Value} {K : Act → World → Prop} (hi : Nat.blt i n = true) (ht : P.underlying t = some (.slice e)) (hz : sizeIs P e size) (hzz : zeroIs P e z) (h0 : 0 < m * size) (hm : m * size ≤ 16777216)
    (hx : evs ts (ps.map (·.2)) = some vs) (hf : Instr.fill (fun i => some (i * size, size)) ((Array.range (m * size)).map (z.cells[· % z.cells.size]!)) ((ps.map (·.1)).zip vs) = some cs)
    (h : ∀ b, At E n D ((i, .slice (some ⟨b, 0, none⟩) m m) :: ts) (blk b e cs :: l) K) : At E n D ts l (fun a w => (Oper.mk (some i) (.buildSlice t m ps.toArray) ty pos af g).wp P a w K Q) := fun a w f hw => by
  have hp : (ps.toArray.map fun p => (p.1, a.eval p.2)).toList = (ps.map (·.1)).zip vs := by
    have := evs_eval f.knows hx
    rw [← this]
    simp
    clear hx hf this h0 hm
    induction ps with
    | nil => rfl
    | cons p ps ih => simp; exact ih
  have hr : (execOp a.eval (Oper.mk (some i) (.buildSlice t m ps.toArray) ty pos af g)).run P w = .ok (.value (.slice (some ⟨w.heap.size, 0, none⟩) m m)) (w.alloc (.cells cs e)) := by
    simp only [execOp, Instr.buildSlice, Sem.run_bind, run_underlying ht, Result.andThen_ok, run_sizeIs hz, hp]
    rw [if_neg (by omega), if_neg (by omega)]
    simp [run_zeroIs hzz, hf, newRow]
  show (Oper.mk (some i) (.buildSlice t m ps.toArray) ty pos af g).wp P a w K Q
  unfold Oper.wp
  rw [hr]
  exact h _ _ _ (f.put i (Nat.le_of_ble_eq_true hi) _) (hw.alloc _)
theorem o_slice1 {t e : TypeId} {z : Value} {x : Operand} {v : Value} {K : Act → World → Prop} (hi : Nat.blt i n = true) (ht : P.underlying t = some (.slice e)) (hz : sizeIs P e 1) (hzz : zeroIs P e z) (hx : ev ts x = some v) (hv : v.oneCell' = true)
    (h : ∀ b, At E n D ((i, .slice (some ⟨b, 0, none⟩) 1 1) :: ts) (blk b e #[v] :: l) K) : At E n D ts l (fun a w => (Oper.mk (some i) (.buildSlice t 1 #[(0, x)]) ty pos af g).wp P a w K Q) :=
  o_slices (ps := [(0, x)]) (vs := [v]) (cs := #[v]) hi ht hz hzz (by omega) (by omega) (by simp [evs, hx]) (by
    have e1 : Array.range (1 * 1) = #[0] := rfl
    rw [e1]
    simp [Instr.fill, cells_one hv]) h
theorem o_read {f : FuncId} {xs : List Operand} {at_ : Array TypeId} {args : List Value} {R : Value → Prop} {K : Act → World → Prop} (hi : Nat.blt i n = true) (hb : hasBody P f = true) (hx : evs ts xs = some args)
    (hs : ∀ w, Holds E w l → Calls P f args.toArray w fun e w' => ∃ v, e = .returned v ∧ R v ∧ Below w.heap.size w w') (h : ∀ v, R v → At E n D ((i, v) :: ts) l K) :
    At E n D ts l (fun a w => (Oper.mk (some i) (.call { callee := .value (.func f), args := xs.toArray, argTypes := at_ }) ty pos af g).wp P a w K Q) := fun a w ft hw => by
  have := evs_eval ft.knows hx
  have hr : (execOp a.eval (Oper.mk (some i) (.call { callee := .value (.func f), args := xs.toArray, argTypes := at_ }) ty pos af g)).run P w = .ok (.enter f args.toArray) w := by
    simp [execOp, resolve, Deferred.ofValue, Act.eval, invoke, this, run_callFunc hb]
  show (Oper.mk (some i) (.call { callee := .value (.func f), args := xs.toArray, argTypes := at_ }) ty pos af g).wp P a w K Q
  unfold Oper.wp
  rw [hr]
  refine (hs w hw).mono fun e w' ⟨v, he, hR, hbel⟩ => ?_
  subst he
  exact h v hR _ w' (ft.put i (Nat.le_of_ble_eq_true hi) v) (hw.below hbel)
theorem Does.frame {G : Env → Prop} {f : FuncId} {args : Array Value} {pre : List HP} {R : Value → List HP → Prop} (h : Does P G f args pre R) (c : List HP) : Does P G f args (pre ++ c) fun v m => ∃ m', R v m' ∧ m = m' ++ c := fun E w fr hE hw => by
  rw [List.append_assoc] at hw
  refine (h E w _ hE hw).mono fun e w' ⟨v, m, he, hR, hh⟩ => ⟨v, m ++ c, he, ⟨m, hR, rfl⟩, ?_⟩
  rw [List.append_assoc]
  exact hh
theorem run_loadVar1 {t : TypeId} {p : Addr} {v : Value} {w : World} (hd : isAggB P t = some false) (hc : w.cell? p = some v) : (loadVar t p).run P w = .ok v w := by
  simp [loadVar, run_isAggB hd, hc]
theorem run_loadVarN {t : TypeId} {b o m : Nat} {vs : List Value} {w : World} (hd : isAggB P t = some true) (hz : sizeIs P t m) (hm : vs.length = m) (hc : RowIs b o vs w) : (loadVar t ⟨b, o, none⟩).run P w = .ok (.agg vs.toArray) w := by
  subst hm
  have := run_loadCellsFrom (P := P) vs 0 #[] (fun j v hj => by simpa using hc j v hj)
  simp [loadVar, run_isAggB hd, run_sizeIs hz, loadCells, this]
theorem ev_index {t e : TypeId} {x y : Operand} {k : IntKind} {j len : Nat} {cs : Array Value} {v : Value} (ht : P.underlying t = some (.array len e)) (hd : isAggB P e = some false) (hz : sizeIs P e 1) (hx : ev ts x = some (.agg cs)) (hy : ev ts y = some (.int k (j : Int))) (hj : j < len) (hv : cs[j]? = some v) :
    Ev P ts (.index t x y) v Any := by
  intro a w _ _ _ _ _ kn _
  simp [execOp, kn.eval hx, kn.eval hy, Instr.index, asIntOf, run_underlying ht, run_sizeIs hz, part, run_isAggB hd, hv]
  intro h; omega
theorem Ent.sel {p : HP} {r : List HP} (s : Sel p l r) : Ent l (p :: r) := Ent.perm s.perm
theorem Ent.sel2 {p q : HP} {r r' : List HP} (s : Sel p l r) (s' : Sel q r r') : Ent l (p :: q :: r') := (Ent.sel s).trans (Ent.cons (Ent.sel s'))
theorem Ent.sel3 {p q u : HP} {r r' r'' : List HP} (s : Sel p l r) (s' : Sel q r r') (s'' : Sel u r' r'') : Ent l (p :: q :: u :: r'') := (Ent.sel s).trans (Ent.cons (Ent.sel2 s' s''))
theorem Ent.drop1 {p : HP} {r : List HP} (s : Sel p l r) : Ent l r := (Ent.sel s).trans Ent.drop
theorem Ent.ob (b : Nat) {o : Obj} {r : List HP} [h : Has b l o r] : Ent l (SL.ob b o :: r) := Ent.sel h.sel
theorem ev_slice {t e : TypeId} {x : Operand} {lo hi : Option Operand} {A : Option Addr} {len cap a b z : Nat} (ht : P.underlying t = some (.slice e)) (hz : sizeIs P e z) (hx : ev ts x = some (.slice A len cap))
    (hlo : match lo with | some o => ∃ k, ev ts o = some (.int k (a : Int)) | none => a = 0) (hhi : match hi with | some o => ∃ k, ev ts o = some (.int k (b : Int)) | none => b = len) (h1 : a ≤ b) (h2 : b ≤ cap) :
    Ev P ts (.slice t x lo hi none) (.slice (if cap = a then A else A.map (·.add (a * z))) (b - a) (cap - a)) Any := by
  intro ac w _ _ _ _ _ kn _
  have hb : ((b : Int)).toNat = b := by omega
  have ha : ((a : Int)).toNat = a := by omega
  rcases lo with _ | lo <;> rcases hi with _ | hi
  · simp only at hlo hhi
    subst hlo; subst hhi
    simp [execOp, Instr.sliceAt, Instr.slice, run_underlying ht, kn.eval hx, Instr.sliceBounds, run_sizeIs hz]
  · obtain ⟨k, hk⟩ := hhi
    simp only at hlo
    subst hlo
    simp [execOp, Instr.sliceAt, Instr.slice, run_underlying ht, kn.eval hx, kn.eval hk, Instr.sliceBounds, Instr.sliceBound, asIntOf, run_sizeIs hz, h2]
  · obtain ⟨k, hk⟩ := hlo
    simp only at hhi
    subst hhi
    simp [execOp, Instr.sliceAt, Instr.slice, run_underlying ht, kn.eval hx, kn.eval hk, Instr.sliceBounds, Instr.sliceBound, asIntOf, run_sizeIs hz, h1]
  · obtain ⟨k, hk⟩ := hlo
    obtain ⟨k', hk'⟩ := hhi
    simp [execOp, Instr.sliceAt, Instr.slice, run_underlying ht, kn.eval hx, kn.eval hk, kn.eval hk', Instr.sliceBounds, Instr.sliceBound, asIntOf, run_sizeIs hz, h1, h2]
end
end Go.SL

namespace Go.Proofs.YtmeegfamopaljaaGreatDoor
open Go Go.RowKit
theorem ret_int {k : IntKind} {a b : Int} (h : a = b) : Ending.returned (.int k a) = .returned (.int k b) := by rw [h]
def i64 (x : Int) : Prop := -9223372036854775808 ≤ x ∧ x ≤ 9223372036854775807
def Same (B : Nat) (w w' : World) : Prop := ∀ k, k < B → w'.heap[k]? = w.heap[k]?
theorem Same.cell {B : Nat} {w w' : World} (h : Same B w w') {b o : Nat} (hb : b < B) : w'.cell? ⟨b, o, none⟩ = w.cell? ⟨b, o, none⟩ := World.cell?_of_block (w := w) (h b hb)
theorem Same.refl (B : Nat) (w : World) : Same B w w := fun _ _ => rfl
theorem Same.trans {B : Nat} {a b c : World} (h : Same B a b) (k : Same B b c) : Same B a c := fun i hi => (k i hi).trans (h i hi)
theorem Same.mono {B B' : Nat} {w w' : World} (h : Same B w w') (hB : B' ≤ B) : Same B' w w' := fun k hk => h k (Nat.lt_of_lt_of_le hk hB)
theorem _root_.Go.RowKit.Below.to_same {B : Nat} {w w' : World} (h : Below B w w') : Same B w w' := h.block
structure IntsAt (w : World) (B : Nat) (A : Option Addr) (c : Nat) (l : List Int) : Prop where
  rng : ∀ x ∈ l, i64 x
  len : l.length ≤ c
  cap : c ≤ 9223372036854775807
  cells : 0 < l.length → ∃ b off, A = some ⟨b, off, none⟩ ∧ b < B ∧ ∀ i x, l[i]? = some x → w.cell? ⟨b, off + i, none⟩ = some (.int .i64 x)
structure NodeAt (w : World) (B b off : Nat) (n : FK.Node) : Prop where
  c0 : w.cell? ⟨b, off, none⟩ = some (.int .i64 n.budget)
  c1 : w.cell? ⟨b, off + 1, none⟩ = some (.int .i64 n.close)
  c2 : w.cell? ⟨b, off + 2, none⟩ = some (.int .i64 n.beat)
  c3 : w.cell? ⟨b, off + 3, none⟩ = some (.int .i64 n.base)
  c4 : w.cell? ⟨b, off + 4, none⟩ = some (.int .i64 n.cap)
  c5 : w.cell? ⟨b, off + 5, none⟩ = some (.int .i64 n.jitter)
  c6 : ∃ A c, w.cell? ⟨b, off + 6, none⟩ = some (.slice A n.after.length c) ∧ IntsAt w B A c n.after
  rng : i64 n.budget ∧ i64 n.close ∧ i64 n.beat ∧ i64 n.base ∧ i64 n.cap ∧ i64 n.jitter
structure NodesAt (w : World) (B : Nat) (A : Option Addr) (c : Nat) (l : List FK.Node) : Prop where
  len : l.length ≤ c
  cap : c ≤ 9223372036854775807
  cells : 0 < l.length → ∃ b off, A = some ⟨b, off, none⟩ ∧ b < B ∧ ∀ i n, l[i]? = some n → NodeAt w B b (off + i * 7) n
section
variable {w w' : World} {B B' : Nat} {A : Option Addr} {c : Nat}
theorem IntsAt.keep {l : List Int} (h : IntsAt w B A c l) (s : Same B w w') : IntsAt w' B A c l := by
  obtain ⟨h0, h1, h2, h3⟩ := h
  refine ⟨h0, h1, h2, fun hl => ?_⟩
  obtain ⟨b, off, rfl, hb, hc⟩ := h3 hl
  exact ⟨b, off, rfl, hb, fun i x hx => by rw [s.cell hb]; exact hc i x hx⟩
theorem IntsAt.more {l : List Int} (h : IntsAt w B A c l) (hB : B ≤ B') : IntsAt w B' A c l := by
  obtain ⟨h0, h1, h2, h3⟩ := h
  refine ⟨h0, h1, h2, fun hl => ?_⟩
  obtain ⟨b, off, rfl, hb, hc⟩ := h3 hl
  exact ⟨b, off, rfl, by omega, hc⟩
theorem NodeAt.keep {b off : Nat} {n : FK.Node} (h : NodeAt w B b off n) (s : Same B w w') (hb : b < B) : NodeAt w' B b off n := by
  obtain ⟨c0, c1, c2, c3, c4, c5, ⟨A, c, hv, hi⟩, hr⟩ := h
  exact ⟨by rw [s.cell hb]; exact c0, by rw [s.cell hb]; exact c1, by rw [s.cell hb]; exact c2, by rw [s.cell hb]; exact c3, by rw [s.cell hb]; exact c4, by rw [s.cell hb]; exact c5, ⟨A, c, by rw [s.cell hb]; exact hv, hi.keep s⟩, hr⟩
theorem NodeAt.more {b off : Nat} {n : FK.Node} (h : NodeAt w B b off n) (hB : B ≤ B') : NodeAt w B' b off n := by
  obtain ⟨c0, c1, c2, c3, c4, c5, ⟨A, c, hv, hi⟩, hr⟩ := h
  exact ⟨c0, c1, c2, c3, c4, c5, ⟨A, c, hv, hi.more hB⟩, hr⟩
theorem NodesAt.keep {l : List FK.Node} (h : NodesAt w B A c l) (s : Same B w w') : NodesAt w' B A c l := by
  obtain ⟨h1, h2, h3⟩ := h
  refine ⟨h1, h2, fun hl => ?_⟩
  obtain ⟨b, off, rfl, hb, hc⟩ := h3 hl
  exact ⟨b, off, rfl, hb, fun i x hx => (hc i x hx).keep s hb⟩
theorem NodesAt.more {l : List FK.Node} (h : NodesAt w B A c l) (hB : B ≤ B') : NodesAt w B' A c l := by
  obtain ⟨h1, h2, h3⟩ := h
  refine ⟨h1, h2, fun hl => ?_⟩
  obtain ⟨b, off, rfl, hb, hc⟩ := h3 hl
  exact ⟨b, off, rfl, by omega, fun i x hx => (hc i x hx).more hB⟩
end
end Go.Proofs.YtmeegfamopaljaaGreatDoor

namespace Go.Proofs.YtmeegfamopaljaaGreatDoor
open Go Go.RowKit
def bytesV (l : List UInt8) : List Value := l.map fun b => .int .u8 b.toNat
theorem bytesV_length (l : List UInt8) : (bytesV l).length = l.length := by simp [bytesV]
theorem bytesV_append (a b : List UInt8) : bytesV (a ++ b) = bytesV a ++ bytesV b := by simp [bytesV]
def OwnBytes (w : World) (base : Nat) (v : Value) (l : List UInt8) : Prop := w.ownsRow base 5 1 v l.length (bytesV l)
def Moved (B : Nat) (v v' : Value) : Prop := v'.ownBlock = v.ownBlock ∨ ∃ k, v'.ownBlock = some k ∧ B ≤ k
theorem Moved.refl (B : Nat) (v : Value) : Moved B v v := .inl rfl
theorem Moved.trans {B : Nat} {a b c : Value} (h : Moved B a b) (k : Moved B b c) : Moved B a c := by
  rcases k with k | k
  · rcases h with h | ⟨x, h, hx⟩
    · exact .inl (k.trans h)
    · exact .inr ⟨x, k.trans h, hx⟩
  · exact .inr k
theorem Moved.mono {B B' : Nat} {a b : Value} (h : Moved B a b) (hB : B' ≤ B) : Moved B' a b := by
  rcases h with h | ⟨x, h, hx⟩
  · exact .inl h
  · exact .inr ⟨x, h, by omega⟩
theorem grown_step {w w1 w2 : World} {v v1 : Value} (h : w.grownBy w1 v.ownBlock) (m : Moved w.heap.size v v1) (k : w1.grownBy w2 v1.ownBlock) : w.grownBy w2 v.ownBlock := by
  refine ⟨k.os.trans h.os, k.tape.trans h.tape, k.output.trans h.output, Nat.le_trans h.size k.size, fun i hi hne => ?_⟩
  rw [k.block i (Nat.lt_of_lt_of_le hi h.size) ?_, h.block i hi hne]
  rcases m with m | ⟨x, hm, hx⟩
  · rw [m]; exact hne
  · rw [hm]; intro e; injection e with e; omega
theorem infoByte : (Tryz.prog.info? 5).map (fun i => (i.zero, i.size, i.bytes)) = some (some (.int .u8 0), 1, 1) := by kernel_rfl
theorem encN_length_ten : ∀ (k n : Nat), n < 128 ^ k → 0 < k → (FK.encN n).length ≤ k := by
  intro k
  induction k with
  | zero => intro n _ h; omega
  | succ k ih =>
    intro n hn _
    by_cases h : n < 128
    · rw [FK.encN_lt h]; simp
    · rw [FK.encN_ge h]
      rcases Nat.eq_zero_or_pos k with h0 | h0
      · subst h0; simp at hn; omega
      · have := ih (n / 128) (by rw [Nat.div_lt_iff_lt_mul (by omega)]; rwa [Nat.pow_succ] at hn) h0
        simp; omega
theorem encN_le_ten {n : Nat} (h : n < 18446744073709551616) : (FK.encN n).length ≤ 10 := encN_length_ten 10 n (Nat.lt_of_lt_of_le h (by decide)) (by omega)
def NumPost (w : World) (base : Nat) (v : Value) (l : List UInt8) (e : Ending) (w' : World) : Prop :=
  ∃ v', e = .returned v' ∧ OwnBytes w' base v' l ∧ w.grownBy w' v.ownBlock ∧ Moved w.heap.size v v'
theorem low_byte (m : Nat) : (m : Int) % 256 = ((UInt8.ofNat m).toNat : Int) := by
  simp
theorem or_128 (m : Nat) : bits BinOp.or IntKind.u8 ((m : Int) % 256) 128 = ((UInt8.ofNat (m % 128 + 128)).toNat : Int) := by
  have e1 : (m : Int) % 256 = ((m % 256 : Nat) : Int) := by omega
  rw [e1]
  have := u8_or_nat (m % 256) 128 (by omega) (by omega)
  rw [show ((128 : Int)) = ((128 : Nat) : Int) from rfl, this]
  have key : ∀ x : Fin 256, x.val ||| 128 = x.val % 128 + 128 := by decide +kernel
  have := key ⟨m % 256, by omega⟩
  simp only at this
  rw [this]
  have h2 : m % 256 % 128 = m % 128 := by omega
  rw [h2]
  simp
  omega
theorem byte_step {w wr w2 : World} {base : Nat} {v u0 v2 : Value} {l1 : List UInt8} {x : UInt8} {y : Int} {o : Obj} (hg : w.grownBy wr v.ownBlock) (hm : Moved w.heap.size v u0)
    (hown2 : w2.ownsRow base 5 1 v2 (l1.length + 1) (bytesV l1 ++ [.int .u8 y])) (hy : y = x.toNat) (hg2 : (wr.alloc o).grownBy w2 u0.ownBlock) (hat2 : v2.ownBlock = u0.ownBlock ∨ v2.ownBlock = some (wr.heap.size + 1)) :
    OwnBytes w2 base v2 (l1 ++ [x]) ∧ w.grownBy w2 v.ownBlock ∧ Moved w.heap.size v v2 := by
  subst hy
  have hs := hg.size
  refine ⟨?_, grown_step hg hm ((World.grownBy_alloc wr o u0.ownBlock).trans hg2), hm.trans ?_⟩
  · unfold OwnBytes
    rw [bytesV_append, List.length_append]
    exact hown2
  · rcases hat2 with h | h
    · exact .inl h
    · exact .inr ⟨_, h, by omega⟩
set_option maxRecDepth 10000 in
set_option maxHeartbeats 1000000 in
theorem flow_Number_calls (w : World) (base : Nat) (v : Value) (l : List UInt8) (n : Nat) (hn : n < 18446744073709551616) (hown : OwnBytes w base v l) (hl : l.length ≤ 1099511627776) (hbase : base ≤ w.heap.size) :
    Calls Tryz.prog 142 #[v, .int .u64 n] w (NumPost w base v (l ++ FK.encN n)) := by
  obtain ⟨i0, hi, hz0, hz1, hz2⟩ := info_parts infoByte
  have HL := Lib.hid (show (l ++ FK.encN n).length ≤ 1099511627786 by have := encN_le_ten hn; simp; omega)
  have HOWN := Lib.hid hown
  have HI := Lib.hid hi
  have HZ0 := Lib.hid hz0
  have HZ1 := Lib.hid hz1
  have HZ2 := Lib.hid hz2
  clear hown hi hz0 hz1 hz2
  go_enter Tryz.func142, Tryz.ntmps142
  go_wp2
  go_loopw [0, 1] (fun t s wr => ∃ (l1 : List UInt8) (m : Nat), s = .int .u64 m ∧ m < 18446744073709551616 ∧ l1 ++ FK.encN m = l ++ FK.encN n ∧ OwnBytes wr base t l1 ∧ w.grownBy wr v.ownBlock ∧ Moved w.heap.size v t) (fun _ s _ => (intOf s).toNat)
  case atStart => exact ⟨l, n, rfl, hn, rfl, HOWN.out, World.grownBy.refl _ _, .refl _ _⟩
  case round =>
    obtain ⟨l1, m, rfl, hm, he, hown, hg, hmv⟩ := hrel
    have HE := Lib.hid he
    have HG := Lib.hid hg
    have HM := Lib.hid hmv
    have hsz := hg.size
    have hlen : l1.length ≤ 1099511627786 := by
      have := congrArg List.length he
      have h2 := HL.out
      simp at this h2; omega
    clear he hg hmv
    by_cases hbig : 127 < m
    · have hor := or_128 m
      have HN := Lib.hid (FK.encN_ge (n := m) (by omega))
      obtain ⟨x, hx⟩ : ∃ x : UInt8, x = UInt8.ofNat (m % 128 + 128) := ⟨_, rfl⟩
      rw [← hx] at hor HN
      clear hx
      go_wp2_with (at_builtin; go_must (refine wpList_append_own_at _ rfl (.tmp 9) (.tmp 13) 47 rfl base 5 i0 (.int .u8 0) 1 1 Tryz.underlying47 HI.out HZ0.out HZ1.out HZ2.out rfl (by decide) u0 l1.length (bytesV l1) rfl (World.ownsRow.alloc hown _) ⟨wr.heap.size, 0, none⟩ 1 1 [.int .u8 x.toNat] rfl rfl (cell_one_new _ _ _) (by simp [Value.oneCell']) (by unfold maxLen; omega) (by omega) (by simp; omega) ?_); intro v2 w2 hown2 hg2 _ hat2)
      obtain ⟨h1, h2, h3⟩ := byte_step HG.out HM.out hown2 rfl hg2 (by simpa using hat2)
      have H1 := Lib.hid h1
      have H2 := Lib.hid h2
      have H3 := Lib.hid h3
      clear h1 h2 h3 hown2 hg2 hat2 hown
      go_roundw
      case rel => exact ⟨l1 ++ [x], m / 128, by go_num, by omega, by rw [← HE.out, HN.out]; simp, H1.out, H2.out, H3.out⟩
      case measure => simp [intOf]; omega
    · have hlow := low_byte m
      have HN := Lib.hid (FK.encN_lt (n := m) (by omega))
      obtain ⟨x, hx⟩ : ∃ x : UInt8, x = UInt8.ofNat m := ⟨_, rfl⟩
      rw [← hx] at hlow HN
      have hy : (m : Int) = x.toNat := by omega
      have HY := Lib.hid hy
      clear hx hlow hy
      go_wp2_with (at_builtin; go_must (refine wpList_append_own_at _ rfl (.tmp 15) (.tmp 18) 47 rfl base 5 i0 (.int .u8 0) 1 1 Tryz.underlying47 HI.out HZ0.out HZ1.out HZ2.out rfl (by decide) u0 l1.length (bytesV l1) rfl (World.ownsRow.alloc hown _) ⟨wr.heap.size, 0, none⟩ 1 1 [.int .u8 (m : Int)] rfl rfl (cell_one_new _ _ _) (by simp [Value.oneCell']) (by unfold maxLen; omega) (by omega) (by simp; omega) ?_); intro v2 w2 hown2 hg2 _ hat2)
      obtain ⟨h1, h2, h3⟩ := byte_step HG.out HM.out hown2 HY.out hg2 (by simpa using hat2)
      have H1 := Lib.hid h1
      have H2 := Lib.hid h2
      have H3 := Lib.hid h3
      clear h1 h2 h3 hown2 hg2 hat2 hown
      go_wp2
      go_ret
      exact ⟨v2, rfl, by rw [← HE.out, HN.out]; exact H1.out, H2.out, H3.out⟩
end Go.Proofs.YtmeegfamopaljaaGreatDoor

namespace Go.Proofs.YtmeegfamopaljaaGreatDoor
open Go Go.RowKit
def Tab (w : World) : Prop := TabAt 2 Lib.deBruijn64tab w
theorem Tab.keep {B : Nat} {w w' : World} (h : Tab w) (s : Same B w w') (hB : 2 < B) : Tab w' := fun j hj => by rw [s.cell hB]; exact h j hj
set_option maxHeartbeats 1000000 in
theorem tz64_core (x k idx : Nat) (w : World) (hx0 : ((x : Int) == 0) = false)
    (key : IntKind.u64.wrap (bits BinOp.and IntKind.u64 (x : Int) (IntKind.u64.wrap (-(x : Int))) * 285870213051353865) / 288230376151711744 = (idx : Int))
    (hi : idx < 64) (hk : k < 64) (hcell : w.cell? ⟨2, idx, none⟩ = some (.int .u8 k)) :
    Calls Tryz.prog 196 #[.int .u64 x] w fun e w' => e = .returned (.int .i64 k) ∧ w = w' := by
  go_enter Tryz.func196, Tryz.ntmps196
  go_wp2_with (simp only [key])
  go_ret
  exact ⟨rfl, rfl⟩
theorem tz64_calls (x : Nat) (hx : x < 18446744073709551616) (hx0 : x ≠ 0) (w : World) (hT : Tab w) :
    Calls Tryz.prog 196 #[.int .u64 x] w fun e w' => e = .returned (.int .i64 (Lib.ctz 64 x)) ∧ w = w' := by
  obtain ⟨hlow, hk⟩ := Lib.lowest_bit 64 x hx0 hx
  obtain ⟨hi, htab⟩ := Lib.deBruijn64_at _ hk
  have hcell := hT _ hi
  rw [htab] at hcell
  exact tz64_core x _ _ w (by simp; omega) (tz64_key x _ hx hx0 hlow) hi hk hcell
set_option maxHeartbeats 400000 in
theorem tz_calls (x : Nat) (hx : x < 18446744073709551616) (hx0 : x ≠ 0) (w : World) (hT : Tab w) :
    Calls Tryz.prog 141 #[.int .u64 x] w fun e w' => e = .returned (.int .i64 (Lib.ctz 64 x)) ∧ w = w' := by
  have H := Lib.hid (tz64_calls x hx hx0)
  clear hx
  go_enter Tryz.func141, Tryz.ntmps141
  go_wp2_with (go_at_call 196; refine (H.out _ hT).mono ?_; rintro e w' ⟨rfl, rfl⟩)
  go_ret
  exact ⟨rfl, rfl⟩
theorem ctz_low (x : Nat) (hx : x < 18446744073709551616) (hx0 : x ≠ 0) : x.testBit (Lib.ctz 64 x) = true ∧ (∀ j, j < Lib.ctz 64 x → x.testBit j = false) ∧ Lib.ctz 64 x < 64 := by
  unfold Lib.ctz
  rw [if_neg hx0]
  obtain ⟨m, hm, hk⟩ := Lib.ctzFrom_spec 64 x (by omega) (by simpa using hx)
  generalize Lib.ctzFrom 64 x = t at hm hk ⊢
  refine ⟨?_, ?_, hk⟩
  · rw [hm, Nat.mul_comm, Nat.testBit_mul_two_pow, Nat.sub_self, Nat.testBit_zero]; simp
  · intro j hj
    rw [hm, Nat.mul_comm, Nat.testBit_mul_two_pow]; simp; omega
end Go.Proofs.YtmeegfamopaljaaGreatDoor

namespace Go.Proofs.YtmeegfamopaljaaGreatDoor
open Go Go.RowKit Go.Deep
def Blk (w : World) (g : Nat) (t : TypeId) (cs : Array Value) : Prop := w.heap[g]? = some (.cells cs t (0, 0))
section
variable {w w' : World} {g : Nat} {t : TypeId} {cs : Array Value}
theorem Blk.lt (h : Blk w g t cs) : g < w.heap.size := by
  rcases Nat.lt_or_ge g w.heap.size with hlt | hge
  · exact hlt
  · unfold Blk at h; rw [Array.getElem?_eq_none hge] at h; cases h
theorem Blk.cell (h : Blk w g t cs) (i : Nat) : w.cell? ⟨g, i, none⟩ = cs[i]? := cell_of_row w g i cs t (0, 0) h
theorem Blk.free (h : Blk w g t cs) (i : Nat) : w.frozen? ⟨g, i, none⟩ = false := by
  unfold Blk at h
  simp [World.frozen?, h]
theorem Blk.made (w : World) (t : TypeId) (cs : Array Value) : Blk (w.alloc (.cells cs t)) w.heap.size t cs := heap_alloc_new w _
theorem Blk.put (h : Blk w g t cs) (i : Nat) (u : Value) : Blk (w.setCell ⟨g, i, none⟩ u) g t (cs.setIfInBounds i u) := by
  unfold Blk at h ⊢
  simp [World.setCell, Array.getElem?_modify, h]
theorem Blk.same {B : Nat} (h : Blk w g t cs) (s : Same B w w') (hg : g < B) : Blk w' g t cs := (s g hg).trans h
end
def needF (l : List FK.Node) (i m : Nat) (j : Nat) : Nat := if j < i then FK.mask (FK.aft l j) else if j = i then FK.mask ((FK.aft l i).take m) else 0
def needCells (n : Nat) (F : Nat → Nat) : Array Value := ((List.range n).map fun j => Value.int .u64 (F j)).toArray
theorem needCells_at {n : Nat} {F : Nat → Nat} {j : Nat} (h : j < n) : (needCells n F)[j]? = some (.int .u64 (F j)) := by simp [needCells, h]
theorem needCells_set {n : Nat} {F F' : Nat → Nat} {j : Nat} (hF : ∀ k, k ≠ j → F' k = F k) : (needCells n F).setIfInBounds j (.int .u64 (F' j)) = needCells n F' := by
  apply Array.ext_getElem?
  intro k
  unfold needCells
  rw [Array.getElem?_setIfInBounds]
  by_cases hk : j = k
  · subst hk
    by_cases hj : j < n <;> simp [hj]
  · rw [if_neg hk]
    by_cases hj : k < n
    · simp [hj, hF k (fun e => hk e.symm)]
    · simp [hj]
theorem needBlk_put {w : World} {g n j : Nat} {F F' : Nat → Nat} (h : Blk w g 87 (needCells n F)) (hF : ∀ k, k ≠ j → F' k = F k) : Blk (w.setCell ⟨g, j, none⟩ (.int .u64 (F' j))) g 87 (needCells n F') := by
  have := h.put j (.int .u64 (F' j))
  rwa [needCells_set hF] at this
theorem needF_start (l : List FK.Node) (n : Nat) : madeCells #[Value.int .u64 0] n = needCells n (needF l 0 0) := by
  have : needF l 0 0 = fun _ => 0 := by funext j; simp [needF, FK.mask]
  rw [this]
  unfold madeCells needCells
  apply Array.ext_getElem?
  intro k
  by_cases hk : k < n <;> simp [hk, Nat.mod_one]
theorem needF_step {l : List FK.Node} {i m x : Nat} (h : (FK.aft l i)[m]? = some x) : needF l i (m + 1) i = needF l i m i ||| (1 <<< x) := by
  obtain ⟨hm, hx⟩ := List.getElem?_eq_some_iff.1 h
  simp only [needF, Nat.lt_irrefl, if_false, if_true]
  rw [List.take_succ_eq_append_getElem hm, FK.mask_append, hx]; simp [FK.mask]
theorem needF_other {l : List FK.Node} {i m m' k : Nat} (h : k ≠ i) : needF l i m k = needF l i m' k := by simp [needF, h]
theorem needF_next {l : List FK.Node} {i m : Nat} (h : (FK.aft l i).length ≤ m) : needF l i m = needF l (i + 1) 0 := by
  funext j
  unfold needF
  rw [List.take_of_length_le h]
  by_cases h1 : j < i
  · rw [if_pos h1, if_pos (by omega)]
  · by_cases h2 : j = i
    · subst h2; simp
    · rw [if_neg h1, if_neg h2, if_neg (by omega)]; split <;> simp [FK.mask]
theorem mask_lt {n : Nat} : ∀ {l : List Nat}, (∀ k ∈ l, k < n) → FK.mask l < 2 ^ n := by
  intro l
  induction l with
  | nil => intro _; exact Nat.two_pow_pos _
  | cons k l ih =>
    intro h
    simp only [FK.mask]
    refine Nat.or_lt_two_pow ?_ (ih fun x hx => h x (by simp [hx]))
    rw [Nat.one_shiftLeft]
    exact Nat.pow_lt_pow_right (by omega) (h k (by simp))
theorem needF_lt {l : List FK.Node} {i m j n : Nat} (h : ∀ i, ∀ k ∈ FK.aft l i, k < n) : needF l i m j < 2 ^ n := by
  unfold needF
  split
  · exact mask_lt (h j)
  · split
    · exact mask_lt fun k hk => h i k (List.mem_of_mem_take hk)
    · exact Nat.two_pow_pos _
theorem and_u64 (a b : Nat) (ha : a < 4096) (hb : b < 4096) : bits BinOp.and IntKind.u64 (a : Int) (b : Int) = ((a &&& b : Nat) : Int) := bits_and_u64_nat a b (by omega) (by omega)
theorem asked_dec {wv : Nat} (h : wv ≠ 0) : wv &&& (wv - 1) < wv := by
  have : wv &&& (wv - 1) ≤ wv - 1 := Nat.and_le_right
  omega
def OrdPost (I : World → List Nat → Prop) (l : List FK.Node) (e : Ending) (w' : World) : Prop :=
  ∃ (left : Nat) (T : List Nat), e = .returned (.int .u64 left) ∧ I w' T ∧ FK.Ordering l left T ∧ (∀ i, left.testBit i = true → ∃ k ∈ FK.aft l i, left.testBit k = true)
def clr (left t : Nat) : Nat := left &&& (18446744073709551615 - 2 ^ t)
theorem clr_testBit {left t : Nat} (ht : t < 64) (hleft : left < 18446744073709551616) (j : Nat) : (clr left t).testBit j = (left.testBit j && decide (j ≠ t)) := by
  unfold clr
  rw [Nat.testBit_and]
  by_cases hj : j < 64
  · have e : 18446744073709551615 - 2 ^ t = 2 ^ 64 - (2 ^ t + 1) := by omega
    have hp : 2 ^ t < 2 ^ 64 := Nat.pow_lt_pow_right (by omega) ht
    rw [e, Nat.testBit_two_pow_sub_succ hp, Nat.testBit_two_pow]
    simp [hj, eq_comm]
  · have hp : 2 ^ 64 ≤ 2 ^ j := Nat.pow_le_pow_right (by omega) (by omega)
    have : left.testBit j = false := Nat.testBit_lt_two_pow (by omega)
    rw [this]; simp
theorem clr_lt {left t : Nat} (ht : t < 64) (hleft : left < 18446744073709551616) (hb : left.testBit t = true) : clr left t < left := by
  have h1 : clr left t ≤ left := Nat.and_le_left
  have h2 : clr left t ≠ left := by
    intro e
    have := clr_testBit ht hleft t
    rw [e, hb] at this
    simp at this
  omega
theorem shl_u64 {t : Nat} (ht : t < 64) : IntKind.u64.wrap (2 ^ t) = 2 ^ t := by
  rw [IntKind.wrap_u64]
  have hp : 2 ^ t < 2 ^ 64 := Nat.pow_lt_pow_right (by omega) ht
  have e : ((2 : Int) ^ t) = ((2 ^ t : Nat) : Int) := by simp
  rw [e]
  generalize 2 ^ t = x at hp
  omega
theorem left_start {n : Nat} (h : n ≤ 12) : IntKind.u64.wrap (IntKind.u64.wrap (2 ^ n) - 1) = ((2 ^ n - 1 : Nat) : Int) := by
  rw [shl_u64 (by omega), IntKind.wrap_u64]
  have hp : 2 ^ n ≤ 2 ^ 12 := Nat.pow_le_pow_right (by omega) h
  have h0 := Nat.two_pow_pos n
  have e : ((2 : Int) ^ n) = ((2 ^ n : Nat) : Int) := by simp
  rw [e]
  generalize 2 ^ n = x at hp h0
  omega
theorem ordering_lt {l : List FK.Node} {left : Nat} {T : List Nat} (h : FK.Ordering l left T) (hl : l.length ≤ 12) : left < 4096 := by
  have : left < 2 ^ 12 := by
    apply Nat.lt_of_not_le
    intro hge
    have hne : left ≠ 0 := by intro e; rw [e] at hge; exact absurd hge (by decide)
    have h1 := Nat.testBit_log2 hne
    have h2 := ((h.bits _).1 h1).1
    have h3 : 12 ≤ left.log2 := (Nat.le_log2 hne).2 hge
    omega
  simpa using this
def Asked (l : List FK.Node) (left wv : Nat) : Prop := (∀ i, wv.testBit i = true → left.testBit i = true) ∧ ∀ i, left.testBit i = true → wv.testBit i = true ∨ ∃ k ∈ FK.aft l i, left.testBit k = true
theorem Asked.start (l : List FK.Node) (left : Nat) : Asked l left left := ⟨fun _ h => h, fun _ h => .inl h⟩
theorem Asked.next {l : List FK.Node} {left wv : Nat} (h : Asked l left wv) {t : Nat} (h1 : wv.testBit t = true) (h2 : ∀ j, j < t → wv.testBit j = false) (hb : ∃ k ∈ FK.aft l t, left.testBit k = true) : Asked l left (wv &&& (wv - 1)) := by
  have e := FK.and_pred_testBit t wv h1 h2
  refine ⟨fun i hi => ?_, fun i hi => ?_⟩
  · rw [e i] at hi; simp at hi; exact h.1 i hi.1
  · rcases h.2 i hi with hw | hw
    · by_cases hit : i = t
      · subst hit; exact .inr hb
      · exact .inl (by rw [e i]; simp [hw, hit])
    · exact .inr hw
def Again (w : World) (A : Option Addr) (c : Nat) (l : List FK.Node) (F : FuncId) (cap : Array Value) (I : World → List Nat → Prop) (a : Act) (w' : World) : Prop :=
  ∃ (left : Nat) (T : List Nat) (u2 u3 u6 u7 u8 u9 u10 u11 u12 u13 u14 u15 u16 u17 u18 u19 u20 u21 u22 u23 u24 u25 u26 u27 u28 u29 u30 u31 u32 u33 u34 u35 u36 u37 u38 u39 u40 u41 u42 u43 u44 u45 u46 u47 u48 u49 u50 u51 u52 u53 u54 u55 u56 u57 u58 u59 u60 u61 u62 u63 u64 u65 u66 : Value), a = { tmps := #[.slice A l.length c, .func (.func F) #[] cap, u2, u3, .int .u64 left, .slice (some ⟨w.heap.size, 0, none⟩) l.length l.length, u6, u7, u8, u9, u10, u11, u12, u13, u14, u15, u16, u17, u18, u19, u20, u21, u22, u23, u24, u25, u26, u27, u28, u29, u30, u31, u32, u33, u34, u35, u36, u37, u38, u39, u40, u41, u42, u43, u44, u45, u46, u47, u48, u49, u50, u51, u52, u53, u54, u55, u56, u57, u58, u59, u60, u61, u62, u63, u64, u65, u66], defers := [] } ∧
    I w' T ∧ FK.Ordering l left T ∧ Blk w' w.heap.size 87 (needCells l.length (needF l l.length 0))
set_option maxRecDepth 100000 in
set_option maxHeartbeats 4000000 in
theorem flow_Order_calls (w : World) (B : Nat) (A : Option Addr) (c : Nat) (l : List FK.Node) (F : FuncId) (cap : Array Value) (I : World → List Nat → Prop) (hB : B ≤ w.heap.size) (hl : l.length ≤ 12)
    (hv : ∀ i, ∀ k ∈ FK.aft l i, k < l.length) (hpos : ∀ n ∈ l, ∀ x ∈ n.after, 0 ≤ x)
    (hF : ∀ (args : Array Value) (W : World), (callFunc F args).run Tryz.prog W = .ok (.enter F args) W) (h0 : I w []) (hI : ∀ W T, I W T → NodesAt W B A c l ∧ Tab W ∧ w.heap.size ≤ W.heap.size)
    (hstab : ∀ W W' T, I W T → Below w.heap.size W W' → I W' T)
    (htell : ∀ W T k, I W T → k < l.length → k ∉ T → (∀ j ∈ FK.aft l k, j ∈ T) → Calls Tryz.prog F (#[.int .i64 k] ++ cap) W fun e W' =>
      e = .returned (.tuple #[]) ∧ I W' (T ++ [k]) ∧ W.heap.size ≤ W'.heap.size ∧ ∀ b, w.heap.size ≤ b → b < W.heap.size → W'.heap[b]? = W.heap[b]?) :
    Calls Tryz.prog 139 #[.slice A l.length c, .func (.func F) #[] cap] w (OrdPost I l) := by
  have HN := Lib.hid (hI w [] h0).1
  have H0 := Lib.hid h0
  have HI := Lib.hid hI
  have HS := Lib.hid hstab
  have HT := Lib.hid htell
  have HV := Lib.hid hv
  have HP := Lib.hid hpos
  clear h0 hI hstab htell hv hpos
  have hmk : ∀ W : World, (Instr.makeSlice 310 (.int .i64 (l.length : Int)) (.int .i64 (l.length : Int))).run Tryz.prog W = .ok (.slice (some ⟨W.heap.size, 0, none⟩) l.length l.length) (W.alloc (.cells (needCells l.length (needF l 0 0)) 87)) := fun W => by
    rw [← needF_start]
    exact run_make_row' (P := Tryz.prog) 310 87 (.int .u64 0) 8 Tryz.underlying310 (by kernel_rfl) rfl .i64 .i64 l.length (by omega) (by omega) W
  obtain ⟨left, hleft0⟩ : ∃ x, x = 2 ^ l.length - 1 := ⟨_, rfl⟩
  have hleft : IntKind.u64.wrap (IntKind.u64.wrap (2 ^ l.length) - 1) = (left : Int) := by rw [left_start hl, hleft0]
  have HO0 : Hid (FK.Ordering l left []) := by rw [hleft0]; exact .start l
  clear hleft0
  obtain ⟨T, HT0⟩ : ∃ T : List Nat, Hid (T = []) := ⟨_, rfl⟩
  rw [← HT0.out] at HO0 H0
  go_enter Tryz.func139, Tryz.ntmps139
  go_wp2
  refine wp_scope_jumps 0 (Again w A c l F cap I) (fun a _ => (intOf (a.tmps.getD 4 undef)).toNat) rfl ?_ ?_
  · go_wp2
    go_loopw [21] (fun i wr => ∃ k : Nat, k ≤ l.length ∧ i = .int .i64 k ∧ Blk wr w.heap.size 87 (needCells l.length (needF l k 0)) ∧ Below w.heap.size w wr) (fun i _ => l.length - (intOf i).toNat)
    case atStart => exact ⟨0, by omega, rfl, Blk.made _ _ _, (Below.refl _ _).alloc (Nat.le_refl _) _⟩
    case round =>
      obtain ⟨k, hk, rfl, hblk, hsame⟩ := hrel
      have hlt' := hblk.lt
      by_cases hlt : k < l.length
      · obtain ⟨h1, h2, h3⟩ := HN.out
        obtain ⟨b, off, rfl, hbB, hcell⟩ := h3 (by omega)
        have hnode := (hcell k l[k] (by simp [hlt])).keep (hsame.to_same.mono hB) hbB
        obtain ⟨c0, c1, c2, c3, c4, c5, ⟨A6, n6, c6, hi⟩, hr⟩ := hnode
        have HI6 := Lib.hid hi
        have HBLK := Lib.hid hblk
        have HSAME := Lib.hid hsame
        clear hcell h3 hr hi hblk hsame
        go_wp2
        obtain ⟨wo, rfl⟩ : ∃ wo : World, wo = wr := ⟨_, rfl⟩
        go_loopw [29] (fun i ws => ∃ m : Nat, m ≤ l[k].after.length ∧ i = .int .i64 m ∧ Blk ws w.heap.size 87 (needCells l.length (needF l k m)) ∧ Below w.heap.size w ws) (fun i _ => l[k].after.length - (intOf i).toNat)
        case atStart => exact ⟨0, by omega, rfl, HBLK.out.same (B := wo.heap.size) (fun x hx => Below.heap_alloc _ _ _ hx) hlt', HSAME.out.alloc (by omega) _⟩
        case round =>
          obtain ⟨m, hm, rfl, hblk, hsame⟩ := hrel
          have haft : FK.aft l k = l[k].after.map Int.toNat := FK.aft_of (by simp [hlt])
          by_cases hmlt : m < l[k].after.length
          · have hback : Same B wo wr := fun x hx => (hsame.block x (by omega)).trans (HSAME.out.block x (by omega)).symm
            obtain ⟨b6, o6, hA6, hb6, hc6⟩ := (HI6.out.keep hback).cells (by omega)
            have hxm := hc6 m l[k].after[m] (by simp [hmlt])
            have hx0 : 0 ≤ l[k].after[m] := HP.out l[k] (List.getElem_mem _) _ (List.getElem_mem _)
            have hx1 := HV.out k l[k].after[m].toNat (by rw [haft]; exact List.mem_map_of_mem (List.getElem_mem _))
            obtain ⟨xn, hxn⟩ : ∃ xn : Nat, l[k].after[m] = (xn : Int) := ⟨l[k].after[m].toNat, by omega⟩
            have hget : (FK.aft l k)[m]? = some xn := by rw [haft, List.getElem?_map, List.getElem?_eq_getElem hmlt, hxn]; simp
            rw [hxn] at hxm hx0 hx1
            simp only [Int.toNat_natCast] at hx1
            have hlt1 : needF l k m k < 18446744073709551616 := Nat.lt_of_lt_of_le (needF_lt (n := 12) fun i x hx => by have := HV.out i x hx; omega) (by decide)
            have hlt2 : 2 ^ xn < 18446744073709551616 := Nat.lt_of_lt_of_le (Nat.pow_lt_pow_right (n := 12) (by omega) (by omega)) (by decide)
            have hcell : wr.cell? ⟨w.heap.size, k, none⟩ = some (.int .u64 (needF l k m k : Nat)) := by rw [hblk.cell]; exact needCells_at hlt
            have hfree : wr.frozen? ⟨w.heap.size, k, none⟩ = false := hblk.free k
            have hsh : IntKind.u64.wrap (2 ^ xn) = 2 ^ xn := shl_u64 (by omega)
            have hor : bits BinOp.or IntKind.u64 ((needF l k m k : Nat) : Int) (2 ^ xn) = ((needF l k (m + 1) k : Nat) : Int) := by
              have := bits_or_u64_nat (needF l k m k) (2 ^ xn) hlt1 hlt2
              rw [needF_step hget, Nat.one_shiftLeft, ← this]; simp
            have HB := Lib.hid hblk
            have HS2 := Lib.hid hsame
            have hsz := hblk.lt
            have hal := HI6.out.len
            have hac := HI6.out.cap
            subst hA6
            clear haft hback hc6 hxn hget hlt1 hlt2 hblk hsame
            go_wp2
            go_region
            go_wp2
            go_roundw
            case rel => exact ⟨m + 1, by omega, by go_num, needBlk_put HB.out fun x hx => needF_other hx, (by repeat (first | exact HS2.out | refine below_drewN ?_ _ | refine Below.drew ?_ | refine Below.alloc ?_ (by first | omega | (simp; done) | (simp; omega)) _ | refine Below.setCell ?_ (by first | omega | (simp; done) | (simp; omega)) _))⟩
            case measure => simp [intOf]; omega
          · have HB := Lib.hid hblk
            have HS2 := Lib.hid hsame
            have hsz := hblk.lt
            have HN2 := Lib.hid (needF_next (l := l) (i := k) (m := m) (by rw [haft]; simp; omega))
            clear haft hblk hsame
            go_wp2
            go_roundw
            case rel => exact ⟨k + 1, by omega, by go_num, by rw [← HN2.out]; exact HB.out, HS2.out⟩
            case measure => simp [intOf]; omega
      · obtain rfl : k = l.length := by omega
        have hi := HS.out w wr T H0.out hsame
        have ho := HO0.out
        go_wp2
        go_step3
        go_wp2
        have hl4 := ordering_lt ho hl
        have HI1 := Lib.hid hi
        have HO := Lib.hid ho
        have HB := Lib.hid hblk
        have hsz := hblk.lt
        clear hi ho hblk
        go_loop [4, 10] (fun s t => ∃ wv : Nat, s = .int .u64 left ∧ t = .int .u64 wv ∧ Asked l left wv ∧ wv < 4096) (fun _ t => (intOf t).toNat)
        case atStart => exact ⟨left, rfl, rfl, .start _ _, hl4⟩
        case round =>
          obtain ⟨wv, rfl, rfl, hask, hw4⟩ := hrel
          have HASK := Lib.hid hask
          clear hask
          by_cases hz : wv = 0
          · have hne : ((wv : Int) != 0) = false := by simp [hz]
            have HZ := Lib.hid hz
            clear hz
            go_wp2
            simp only [Exit.jump]
            go_ret
            exact ⟨left, T, rfl, HI1.out, HO.out, fun i hi => (HASK.out.2 i hi).resolve_left (by rw [HZ.out]; simp)⟩
          · obtain ⟨t1, t2, t3⟩ := ctz_low wv (by omega) hz
            have HTZ := Lib.hid (tz_calls wv (by omega) hz wr (HI.out _ _ HI1.out).2.1)
            have hne : ((wv : Int) != 0) = true := by simp; omega
            generalize Lib.ctz 64 wv = t at HTZ t1 t2 t3
            have htl : left.testBit t = true := HASK.out.1 t t1
            have htn : t < l.length := ((HO.out.bits t).1 htl).1
            have hnf : needF l l.length 0 t = FK.mask (FK.aft l t) := by simp [needF, htn]
            obtain ⟨nf, hnfe⟩ : ∃ nf, nf = needF l l.length 0 t := ⟨_, rfl⟩
            have hnf4 : nf < 4096 := by rw [hnfe]; exact needF_lt (n := 12) fun i x hx => by have := HV.out i x hx; omega
            have hcell : wr.cell? ⟨w.heap.size, t, none⟩ = some (.int .u64 (nf : Nat)) := by rw [HB.out.cell, hnfe]; exact needCells_at htn
            have hzero := FK.mask_and_zero (FK.aft l t) left
            rw [← hnf, ← hnfe] at hzero
            have HZERO := Lib.hid hzero
            have T1 := Lib.hid t1
            have T2 := Lib.hid t2
            have TL := Lib.hid htl
            have HZ := Lib.hid hz
            by_cases hb : nf &&& left = 0
            · have hand : bits BinOp.and IntKind.u64 (nf : Int) (left : Int) = 0 := by rw [and_u64 _ _ hnf4 hl4, hb]; rfl
              have hsh : IntKind.u64.wrap (2 ^ t) = 2 ^ t := shl_u64 t3
              have handn : bits BinOp.andNot IntKind.u64 (left : Int) (2 ^ t) = ((clr left t : Nat) : Int) := by
                have hp : 2 ^ t < 2 ^ 64 := Nat.pow_lt_pow_right (by omega) t3
                have := u64_andNot_nat left (2 ^ t) (by omega) (by simpa using hp)
                simpa [clr] using this
              have hfree : ∀ k ∈ FK.aft l t, left.testBit k = false := hzero.1 hb
              have htold : ∀ j ∈ FK.aft l t, j ∈ T := fun j hj => Classical.byContradiction fun hn => by
                have h1 := (HO.out.bits j).2 ⟨HV.out t j hj, hn⟩
                rw [hfree j hj] at h1; cases h1
              have HTELL := Lib.hid (HT.out wr T t HI1.out htn ((HO.out.bits t).1 htl).2 htold)
              have HFREE := Lib.hid hfree
              clear hnf hnfe hzero t1 t2 htl hz hb hfree htold
              go_wp2_with (go_at_call 141; refine HTZ.out.mono ?_; rintro e w2 ⟨rfl, rfl⟩)
              refine HTELL.out.mono ?_
              rintro e w3 ⟨rfl, hi3, hsz3, hsame3⟩
              have HI3 := Lib.hid hi3
              have HSAME3 := Lib.hid hsame3
              clear hi3 hsame3
              go_wp2
              go_step3
              exact ⟨rfl, ⟨clr left t, T ++ [t], _, _, _, _, _, _, _, _, _, _, _, _, _, _, _, _, _, _, _, _, _, _, _, _, _, _, _, _, _, _, _, _, _, _, _, _, _, _, _, _, _, _, _, _, _, _, _, _, _, _, _, _, _, _, _, _, _, _, _, _, _, _, _, rfl, HI3.out, HO.out.tell TL.out HFREE.out (clr_testBit t3 (by omega)), (HSAME3.out _ (Nat.le_refl _) hsz).trans HB.out⟩⟩
            · have hand : bits BinOp.and IntKind.u64 (nf : Int) (left : Int) = ((nf &&& left : Nat) : Int) := and_u64 _ _ hnf4 hl4
              have hne2 : (((nf &&& left : Nat) : Int) == 0) = false := by simp; omega
              have hw : bits BinOp.and IntKind.u64 (wv : Int) ((wv : Int) - 1) = ((wv &&& (wv - 1) : Nat) : Int) := by
                have := and_u64 wv (wv - 1) hw4 (by omega)
                rwa [show ((wv - 1 : Nat) : Int) = (wv : Int) - 1 by omega] at this
              have hdec := asked_dec hz
              have hex : ∃ k ∈ FK.aft l t, left.testBit k = true := Classical.byContradiction fun hn => hb (hzero.2 fun k hk => by
                cases hx : left.testBit k with
                | false => rfl
                | true => exact absurd ⟨k, hk, hx⟩ hn)
              have HEX := Lib.hid hex
              have hz1 : 1 ≤ wv := by omega
              clear hnf hnfe hzero t1 t2 htl hz hb hex
              go_wp2_with (go_at_call 141; refine HTZ.out.mono ?_; rintro e w2 ⟨rfl, rfl⟩)
              go_round
              case rel => exact ⟨wv &&& (wv - 1), rfl, rfl, HASK.out.next T1.out T2.out HEX.out, by omega⟩
              case measure => simp [intOf]; omega
  · rintro a' w' ⟨left, T, u2, u3, u6, u7, u8, u9, u10, u11, u12, u13, u14, u15, u16, u17, u18, u19, u20, u21, u22, u23, u24, u25, u26, u27, u28, u29, u30, u31, u32, u33, u34, u35, u36, u37, u38, u39, u40, u41, u42, u43, u44, u45, u46, u47, u48, u49, u50, u51, u52, u53, u54, u55, u56, u57, u58, u59, u60, u61, u62, u63, u64, u65, u66, rfl, hi, ho, hblk⟩
    go_wp2
    have hl4 := ordering_lt ho hl
    have HI1 := Lib.hid hi
    have HO := Lib.hid ho
    have HB := Lib.hid hblk
    have hsz := hblk.lt
    clear hi ho hblk
    go_loop [4, 10] (fun s t => ∃ wv : Nat, s = .int .u64 left ∧ t = .int .u64 wv ∧ Asked l left wv ∧ wv < 4096) (fun _ t => (intOf t).toNat)
    case atStart => exact ⟨left, rfl, rfl, .start _ _, hl4⟩
    case round =>
      obtain ⟨wv, rfl, rfl, hask, hw4⟩ := hrel
      have HASK := Lib.hid hask
      clear hask
      by_cases hz : wv = 0
      · have hne : ((wv : Int) != 0) = false := by simp [hz]
        have HZ := Lib.hid hz
        clear hz
        go_wp2
        simp only [Exit.jump]
        go_ret
        exact ⟨left, T, rfl, HI1.out, HO.out, fun i hi => (HASK.out.2 i hi).resolve_left (by rw [HZ.out]; simp)⟩
      · obtain ⟨t1, t2, t3⟩ := ctz_low wv (by omega) hz
        have HTZ := Lib.hid (tz_calls wv (by omega) hz w' (HI.out _ _ HI1.out).2.1)
        have hne : ((wv : Int) != 0) = true := by simp; omega
        generalize Lib.ctz 64 wv = t at HTZ t1 t2 t3
        have htl : left.testBit t = true := HASK.out.1 t t1
        have htn : t < l.length := ((HO.out.bits t).1 htl).1
        have hnf : needF l l.length 0 t = FK.mask (FK.aft l t) := by simp [needF, htn]
        obtain ⟨nf, hnfe⟩ : ∃ nf, nf = needF l l.length 0 t := ⟨_, rfl⟩
        have hnf4 : nf < 4096 := by rw [hnfe]; exact needF_lt (n := 12) fun i x hx => by have := HV.out i x hx; omega
        have hcell : w'.cell? ⟨w.heap.size, t, none⟩ = some (.int .u64 (nf : Nat)) := by rw [HB.out.cell, hnfe]; exact needCells_at htn
        have hzero := FK.mask_and_zero (FK.aft l t) left
        rw [← hnf, ← hnfe] at hzero
        have HZERO := Lib.hid hzero
        have T1 := Lib.hid t1
        have T2 := Lib.hid t2
        have TL := Lib.hid htl
        have HZ := Lib.hid hz
        by_cases hb : nf &&& left = 0
        · have hand : bits BinOp.and IntKind.u64 (nf : Int) (left : Int) = 0 := by rw [and_u64 _ _ hnf4 hl4, hb]; rfl
          have hsh : IntKind.u64.wrap (2 ^ t) = 2 ^ t := shl_u64 t3
          have handn : bits BinOp.andNot IntKind.u64 (left : Int) (2 ^ t) = ((clr left t : Nat) : Int) := by
            have hp : 2 ^ t < 2 ^ 64 := Nat.pow_lt_pow_right (by omega) t3
            have := u64_andNot_nat left (2 ^ t) (by omega) (by simpa using hp)
            simpa [clr] using this
          have hfree : ∀ k ∈ FK.aft l t, left.testBit k = false := hzero.1 hb
          have htold : ∀ j ∈ FK.aft l t, j ∈ T := fun j hj => Classical.byContradiction fun hn => by
            have h1 := (HO.out.bits j).2 ⟨HV.out t j hj, hn⟩
            rw [hfree j hj] at h1; cases h1
          have HTELL := Lib.hid (HT.out w' T t HI1.out htn ((HO.out.bits t).1 htl).2 htold)
          have HFREE := Lib.hid hfree
          clear hnf hnfe hzero t1 t2 htl hz hb hfree htold
          go_wp2_with (go_at_call 141; refine HTZ.out.mono ?_; rintro e w2 ⟨rfl, rfl⟩)
          refine HTELL.out.mono ?_
          rintro e w3 ⟨rfl, hi3, hsz3, hsame3⟩
          have HI3 := Lib.hid hi3
          have HSAME3 := Lib.hid hsame3
          clear hi3 hsame3
          go_wp2
          go_step3
          exact ⟨rfl, ⟨clr left t, T ++ [t], _, _, _, _, _, _, _, _, _, _, _, _, _, _, _, _, _, _, _, _, _, _, _, _, _, _, _, _, _, _, _, _, _, _, _, _, _, _, _, _, _, _, _, _, _, _, _, _, _, _, _, _, _, _, _, _, _, _, _, _, _, _, _, rfl, HI3.out, HO.out.tell TL.out HFREE.out (clr_testBit t3 (by omega)), (HSAME3.out _ (Nat.le_refl _) hsz).trans HB.out⟩, by have := clr_lt t3 (by omega) TL.out; simpa [intOf] using this⟩
        · have hand : bits BinOp.and IntKind.u64 (nf : Int) (left : Int) = ((nf &&& left : Nat) : Int) := and_u64 _ _ hnf4 hl4
          have hne2 : (((nf &&& left : Nat) : Int) == 0) = false := by simp; omega
          have hw : bits BinOp.and IntKind.u64 (wv : Int) ((wv : Int) - 1) = ((wv &&& (wv - 1) : Nat) : Int) := by
            have := and_u64 wv (wv - 1) hw4 (by omega)
            rwa [show ((wv - 1 : Nat) : Int) = (wv : Int) - 1 by omega] at this
          have hdec := asked_dec hz
          have hex : ∃ k ∈ FK.aft l t, left.testBit k = true := Classical.byContradiction fun hn => hb (hzero.2 fun k hk => by
            cases hx : left.testBit k with
            | false => rfl
            | true => exact absurd ⟨k, hk, hx⟩ hn)
          have HEX := Lib.hid hex
          have hz1 : 1 ≤ wv := by omega
          clear hnf hnfe hzero t1 t2 htl hz hb hex
          go_wp2_with (go_at_call 141; refine HTZ.out.mono ?_; rintro e w2 ⟨rfl, rfl⟩)
          go_round
          case rel => exact ⟨wv &&& (wv - 1), rfl, rfl, HASK.out.next T1.out T2.out HEX.out, by omega⟩
          case measure => simp [intOf]; omega
end Go.Proofs.YtmeegfamopaljaaGreatDoor

namespace Go.Proofs.YtmeegfamopaljaaGreatDoor
open Go Go.RowKit Go.Deep
theorem own_form {w : World} {base : Nat} {e : TypeId} {size : Nat} {v : Value} {n : Nat} {xs : List Value} (h : w.ownsRow base e size v n xs) : ∃ A c, v = .slice A n c ∧ (A = none → n = 0 ∧ c = 0) ∧ n ≤ c ∧ c ≤ maxLen := by
  rcases h.2 with ⟨rfl, rfl⟩ | ⟨g, cap, cur, rfl, _, _, h1, h2, _⟩
  · exact ⟨none, 0, rfl, fun _ => ⟨rfl, rfl⟩, Nat.le_refl _, Nat.zero_le _⟩
  · exact ⟨_, cap, rfl, (fun h => by cases h), h1, h2⟩
theorem own_beside {w : World} {b b' : Nat} {e e' : TypeId} {s s' n n' : Nat} {v v' : Value} {xs xs' : List Value} (h : w.ownsRow b e s v n xs) (h' : w.ownsRow b' e' s' v' n' xs') (hne : e ≠ e') :
    v.ownBlock = none ∨ v.ownBlock ≠ v'.ownBlock := by
  rcases h.2 with ⟨rfl, _⟩ | ⟨g, cap, cur, rfl, _, hg, _⟩
  · exact .inl rfl
  · right
    rcases h'.2 with ⟨rfl, _⟩ | ⟨g', cap', cur', rfl, _, hg', _⟩
    · simp [Value.ownBlock]
    · intro e
      have e2 : g = g' := by simpa [Value.ownBlock] using e
      subst e2
      rw [hg] at hg'
      injection hg' with hg'
      injection hg' with _ ht
      exact hne ht
theorem own_same {w w' : World} {base : Nat} {e : TypeId} {size : Nat} {v : Value} {n : Nat} {xs : List Value} (h : w.ownsRow base e size v n xs) (hs : ∀ k, v.ownBlock = some k → w'.heap[k]? = w.heap[k]?) : w'.ownsRow base e size v n xs := by
  refine ⟨h.1, ?_⟩
  rcases h.2 with h | ⟨g, cap, cur, rfl, hb, hg, rest⟩
  · exact .inl h
  · exact .inr ⟨g, cap, cur, rfl, hb, (hs g rfl).trans hg, rest⟩
theorem own_lt {w : World} {base : Nat} {e : TypeId} {size : Nat} {v : Value} {n : Nat} {xs : List Value} (h : w.ownsRow base e size v n xs) {k : Nat} (hk : v.ownBlock = some k) : base ≤ k ∧ k < w.heap.size := h.lt k hk
section
variable {P : Program} (w : World)
theorem run_app_nothing (base : Nat) (t ty e : TypeId) (i : TypeInfo) (size : Nat) (ht : P.underlying t = some (.slice e)) (hi : P.info? e = some i)
    (v : Value) (n : Nat) (xs : List Value) (hown : w.ownsRow base e size v n xs) (c : Nat) : (Builtin.append_ #[t, t] ty #[v, .slice none 0 c]).run P w = .ok v w := by
  rcases hown.2 with ⟨rfl, rfl⟩ | ⟨g, cap, cur, rfl, _, _, hnc, _⟩
  · simp [Builtin.append_, run_underlying ht, sizeOf, typeInfo, hi, Builtin.lenOf, Builtin.firstCells]
  · simp [Builtin.append_, run_underlying ht, sizeOf, typeInfo, hi, Builtin.lenOf, Builtin.firstCells, hnc, storeCells]
end
end Go.Proofs.YtmeegfamopaljaaGreatDoor
