/- Rows that are owned: append; calls that only read; slices cut. -/
import Derived.Test.YtagkobkmaigfcaaDoorSlWalk
namespace Go.SL
open Go Go.RowKit

/-- a slice that is owned whole: its first n elements are the cells xs -/
def row (e : TypeId) (size : Nat) (v : Value) (n : Nat) (xs : List Value) : HP where
  sat w F := w.ownsRow 0 e size v n xs ∧ ∀ k, v.ownBlock = some k → F k
  loc {w w' F G} hFG hk h := by
    obtain ⟨⟨h1, h2⟩, h3⟩ := h
    refine ⟨⟨h1, ?_⟩, fun k hk' => hFG _ (h3 k hk')⟩
    rcases h2 with h2 | ⟨g, cap, cur, rfl, hb, hg, rest⟩
    · exact .inl h2
    · exact .inr ⟨g, cap, cur, rfl, hb, (hk g (h3 g rfl)).trans hg, rest⟩

theorem Ent.row0 {e : TypeId} {size : Nat} {l : List HP} : Ent l (row e size (.slice none 0 0) 0 [] :: l) := fun w F s =>
  ⟨fun _ => False, F, fun _ h => h.elim, fun _ h => h, fun _ h => h.elim, ⟨World.ownsRow_nil _ _ _ _, fun k hk => by simp [Value.ownBlock] at hk⟩, s⟩

section
variable {P : Program} {E : Env} {n : Nat} {D : List Deferred} {ts : List (Nat × Value)} {l : List HP} {ops : Array Oper} {Q : Exit → Act → World → Prop} {rest : List Oper} {i : Nat} {ty : TypeId} {pos : String} {af : Array Edge} {g : Option (Nat × Bool)}

theorem Holds.row {w : World} {r : List HP} {e : TypeId} {size : Nat} {v : Value} {m : Nat} {xs : List Value} (h : Holds E w l) (s : Sel (row e size v m xs) l r) : w.ownsRow 0 e size v m xs := by
  obtain ⟨F1, F2, h1, _, _, hp, _⟩ := (h.sel s).star
  exact hp.1

/-- a row grown -/
theorem Holds.grown {w w' : World} {r : List HP} {e e' : TypeId} {size size' : Nat} {v v' : Value} {m m' : Nat} {xs xs' : List Value} (h : Holds E w (SL.row e size v m xs :: r)) (hg : w.grownBy w' v.ownBlock) (ho : w'.ownsRow 0 e' size' v' m' xs')
    (hm : v'.ownBlock = v.ownBlock ∨ ∃ k, v'.ownBlock = some k ∧ w.heap.size ≤ k) : Holds E w' (SL.row e' size' v' m' xs' :: r) := by
  refine h.turn hg.os hg.tape hg.output hg.size fun F1 hp hF => ⟨fun k => v'.ownBlock = some k, fun k hk => ⟨?_, (ho.lt k hk).2⟩, ⟨ho, fun k hk => hk⟩, fun k hk hnk => hg.block k hk fun hkv => hnk (hp.2 k hkv.symm)⟩
  rcases hm with hm | ⟨j, hj, hge⟩
  · exact .inl (hp.2 k (hm ▸ hk))
  · rw [hj] at hk
    injection hk with hk
    subst hk
    exact .inr hge

/-- how a type's elements lie: zero value, cells, bytes -/
def elemIs (P : Program) (e : TypeId) (z : Value) (size bytes : Nat) : Prop := (P.info? e).map (fun i => (i.zero, i.size, i.bytes)) = some (some z, size, bytes)

/-- a row's element, of a block that is held -/
def SrcIs (A : Option Addr) (news : List Value) (w : World) : Prop := ∀ ad, A = some ad → ∀ j u, news[j]? = some u → w.cell? (ad.add j) = some u

theorem run_app_nothing {w : World} (t tty e : TypeId) (j : TypeInfo) (size : Nat) (ht : P.underlying t = some (.slice e)) (hi : P.info? e = some j)
    (v : Value) (m : Nat) (xs : List Value) (hown : w.ownsRow 0 e size v m xs) (c : Nat) : (Builtin.append_ #[t, t] tty #[v, .slice none 0 c]).run P w = .ok v w := by
  rcases hown.2 with ⟨rfl, rfl⟩ | ⟨g, cap, cur, rfl, _, _, hnc, _⟩
  · simp [Builtin.append_, run_underlying ht, sizeOf, typeInfo, hi, Builtin.lenOf, Builtin.firstCells]
  · simp [Builtin.append_, run_underlying ht, sizeOf, typeInfo, hi, Builtin.lenOf, Builtin.firstCells, hnc, storeCells]

/-- append onto a row that is owned -/
theorem o_append {s x : Operand} {t e : TypeId} {z : Value} {size bytes : Nat} {v : Value} {k : Nat} {xs : List Value} {A : Option Addr} {m c : Nat} {news : List Value} {r : List HP} {K : Act → World → Prop} (hi : Nat.blt i n = true) (ht : P.underlying t = some (.slice e)) (hel : elemIs P e z size bytes) (hzs : z.cells.size = size) (hsz : 0 < size)
    (hs : ev ts s = some v) (hx : ev ts x = some (.slice A m c)) (hsel : Sel (row e size v k xs) l r) (hl : news.length = m * size) (hnil : A = none → m = 0) (hnews : ∀ w, Holds E w l → SrcIs A news w) (h1 : ∀ u ∈ news, u.oneCell' = true)
    (hmax : k + m ≤ maxLen) (hby : (k + m) * bytes ≤ 140737488355328)
    (h : ∀ v', (v' = .slice none 0 0 ↔ v = .slice none 0 0 ∧ m = 0) → At E n D ((i, v') :: ts) (row e size v' (k + m) (xs ++ news) :: r) K) :
    At E n D ts l (fun a w => (Oper.mk (some i) (.call { callee := .builtin .append, args := #[s, x], argTypes := #[t, t] }) ty pos af g).wp P a w K Q) := fun a w f hw => by
  obtain ⟨ti, hti, e0, e1, e2⟩ := info_parts hel
  have hown := hw.row hsel
  have hsel' := hw.sel hsel
  have hsrc := hnews w hw
  have hev : ∃ v' w', (execOp a.eval (Oper.mk (some i) (.call { callee := .builtin .append, args := #[s, x], argTypes := #[t, t] }) ty pos af g)).run P w = .ok (.value v') w' ∧ w'.ownsRow 0 e size v' (k + m) (xs ++ news) ∧ w.grownBy w' v.ownBlock ∧ (v' = .slice none 0 0 ↔ v = .slice none 0 0 ∧ m = 0) ∧ (v'.ownBlock = v.ownBlock ∨ v'.ownBlock = some w.heap.size) := by
    rcases A with _ | ad
    · obtain rfl : m = 0 := hnil rfl
      obtain rfl : news = [] := List.eq_nil_of_length_eq_zero (by simpa using hl)
      have hr := run_app_nothing (P := P) (w := w) t ty e ti size ht hti v k xs hown c
      exact ⟨v, w, by simp [execOp, resolve, invoke, builtin, f.eval hs, f.eval hx, hr], by simpa using hown, World.grownBy.refl w _, by simp, .inl rfl⟩
    · obtain ⟨v', w', hr, h2, h3, h4, h5⟩ := run_append_own_at (P := P) w 0 t ty e ti z size bytes ht hti e0 e1 e2 hzs hsz v k xs hown ad m c news hl (hsrc ad rfl) h1 hmax hby (Nat.zero_le _)
      exact ⟨v', w', by simp [execOp, resolve, invoke, builtin, f.eval hs, f.eval hx, hr], h2, h3, h4, h5⟩
  obtain ⟨v', w', hr, h2, h3, h4, h5⟩ := hev
  unfold Oper.wp
  rw [hr]
  exact h v' h4 _ w' (f.put i (Nat.le_of_ble_eq_true hi) v') (Holds.grown hsel' h3 h2 (h5.imp_right fun h => ⟨_, h, Nat.le_refl _⟩))

theorem srcIs {b o : Nat} {tb : TypeId} {cs : Array Value} {fz : Nat × Nat} {r : List HP} {news : List Value} [h : Has b l (.cells cs tb fz) r] (hv : ∀ j u, news[j]? = some u → cs[o + j]? = some u) : ∀ w, Holds E w l → SrcIs (some ⟨b, o, none⟩) news w := fun w hw ad had j u hj => by
  injection had with had
  subst had
  rw [add_plain]
  exact rowIs hv w hw j u hj
theorem srcNil : ∀ w, Holds E w l → SrcIs none [] w := fun _ _ _ h => by cases h

/-- a new slice of elements that are written out -/
theorem o_slices {t e : TypeId} {m : Nat} {z : Value} {size : Nat} {ps : List (Nat × Operand)} {vs : List Value} {cs : Array Value} {K : Act → World → Prop} (hi : Nat.blt i n = true) (ht : P.underlying t = some (.slice e)) (hz : sizeIs P e size) (hzz : zeroIs P e z) (h0 : 0 < m * size) (hm : m * size ≤ 16777216)
    (hx : evs ts (ps.map (·.2)) = some vs) (hf : Instr.fill (fun i => some (i * size, size)) ((Array.range (m * size)).map (z.cells[· % z.cells.size]!)) ((ps.map (·.1)).zip vs) = some cs)
    (h : ∀ b, At E n D ((i, .slice (some ⟨b, 0, none⟩) m m) :: ts) (blk b e cs :: l) K) : At E n D ts l (fun a w => (Oper.mk (some i) (.buildSlice t m ps.toArray) ty pos af g).wp P a w K Q) := fun a w f hw => by
  have hp : (ps.toArray.map fun p => (p.1, a.eval p.2)).toList = (ps.map (·.1)).zip vs := by
    have := evs_eval f.knows hx
    rw [← this]
    simp
    clear hx hf this h0 hm
    induction ps with
    | nil => rfl
    | cons p ps ih => simp; exact ih
  have hr : (execOp a.eval (Oper.mk (some i) (.buildSlice t m ps.toArray) ty pos af g)).run P w = .ok (.value (.slice (some ⟨w.heap.size, 0, none⟩) m m)) (w.alloc (.cells cs e)) := by
    simp only [execOp, Instr.buildSlice, Sem.run_bind, run_underlying ht, Result.andThen_ok, run_sizeIs hz, hp]
    rw [if_neg (by omega), if_neg (by omega)]
    simp [run_zeroIs hzz, hf, newRow]
  show (Oper.mk (some i) (.buildSlice t m ps.toArray) ty pos af g).wp P a w K Q
  unfold Oper.wp
  rw [hr]
  exact h _ _ _ (f.put i (Nat.le_of_ble_eq_true hi) _) (hw.alloc _)

/-- one element in one cell -/
theorem o_slice1 {t e : TypeId} {z : Value} {x : Operand} {v : Value} {K : Act → World → Prop} (hi : Nat.blt i n = true) (ht : P.underlying t = some (.slice e)) (hz : sizeIs P e 1) (hzz : zeroIs P e z) (hx : ev ts x = some v) (hv : v.oneCell' = true)
    (h : ∀ b, At E n D ((i, .slice (some ⟨b, 0, none⟩) 1 1) :: ts) (blk b e #[v] :: l) K) : At E n D ts l (fun a w => (Oper.mk (some i) (.buildSlice t 1 #[(0, x)]) ty pos af g).wp P a w K Q) :=
  o_slices (ps := [(0, x)]) (vs := [v]) (cs := #[v]) hi ht hz hzz (by omega) (by omega) (by simp [evs, hx]) (by
    have e1 : Array.range (1 * 1) = #[0] := rfl
    rw [e1]
    simp [Instr.fill, cells_one hv]) h

/-- a call that only reads, or makes memory that is forgotten -/
theorem o_read {f : FuncId} {xs : List Operand} {at_ : Array TypeId} {args : List Value} {R : Value → Prop} {K : Act → World → Prop} (hi : Nat.blt i n = true) (hb : hasBody P f = true) (hx : evs ts xs = some args)
    (hs : ∀ w, Holds E w l → Calls P f args.toArray w fun e w' => ∃ v, e = .returned v ∧ R v ∧ Below w.heap.size w w') (h : ∀ v, R v → At E n D ((i, v) :: ts) l K) :
    At E n D ts l (fun a w => (Oper.mk (some i) (.call { callee := .value (.func f), args := xs.toArray, argTypes := at_ }) ty pos af g).wp P a w K Q) := fun a w ft hw => by
  have := evs_eval ft.knows hx
  have hr : (execOp a.eval (Oper.mk (some i) (.call { callee := .value (.func f), args := xs.toArray, argTypes := at_ }) ty pos af g)).run P w = .ok (.enter f args.toArray) w := by
    simp [execOp, resolve, Deferred.ofValue, Act.eval, invoke, this, run_callFunc hb]
  show (Oper.mk (some i) (.call { callee := .value (.func f), args := xs.toArray, argTypes := at_ }) ty pos af g).wp P a w K Q
  unfold Oper.wp
  rw [hr]
  refine (hs w hw).mono fun e w' ⟨v, he, hR, hbel⟩ => ?_
  subst he
  exact h v hR _ w' (ft.put i (Nat.le_of_ble_eq_true hi) v) (hw.below hbel)

/-- the same of a contract: all that a contract without facts of its own promises -/
theorem Does.frame {G : Env → Prop} {f : FuncId} {args : Array Value} {pre : List HP} {R : Value → List HP → Prop} (h : Does P G f args pre R) (c : List HP) : Does P G f args (pre ++ c) fun v m => ∃ m', R v m' ∧ m = m' ++ c := fun E w fr hE hw => by
  rw [List.append_assoc] at hw
  refine (h E w _ hE hw).mono fun e w' ⟨v, m, he, hR, hh⟩ => ⟨v, m ++ c, he, ⟨m, hR, rfl⟩, ?_⟩
  rw [List.append_assoc]
  exact hh

theorem run_loadVar1 {t : TypeId} {p : Addr} {v : Value} {w : World} (hd : isAggB P t = some false) (hc : w.cell? p = some v) : (loadVar t p).run P w = .ok v w := by
  simp [loadVar, run_isAggB hd, hc]
theorem run_loadVarN {t : TypeId} {b o m : Nat} {vs : List Value} {w : World} (hd : isAggB P t = some true) (hz : sizeIs P t m) (hm : vs.length = m) (hc : RowIs b o vs w) : (loadVar t ⟨b, o, none⟩).run P w = .ok (.agg vs.toArray) w := by
  subst hm
  have := run_loadCellsFrom (P := P) vs 0 #[] (fun j v hj => by simpa using hc j v hj)
  simp [loadVar, run_isAggB hd, run_sizeIs hz, loadCells, this]

/-- an element of an array that is a value -/
theorem ev_index {t e : TypeId} {x y : Operand} {k : IntKind} {j len : Nat} {cs : Array Value} {v : Value} (ht : P.underlying t = some (.array len e)) (hd : isAggB P e = some false) (hz : sizeIs P e 1) (hx : ev ts x = some (.agg cs)) (hy : ev ts y = some (.int k (j : Int))) (hj : j < len) (hv : cs[j]? = some v) :
    Ev P ts (.index t x y) v Any := by
  intro a w _ _ _ _ _ kn _
  simp [execOp, kn.eval hx, kn.eval hy, Instr.index, asIntOf, run_underlying ht, run_sizeIs hz, part, run_isAggB hd, hv]
  intro h; omega

theorem Ent.sel {p : HP} {r : List HP} (s : Sel p l r) : Ent l (p :: r) := Ent.perm s.perm
theorem Ent.sel2 {p q : HP} {r r' : List HP} (s : Sel p l r) (s' : Sel q r r') : Ent l (p :: q :: r') := (Ent.sel s).trans (Ent.cons (Ent.sel s'))
theorem Ent.sel3 {p q u : HP} {r r' r'' : List HP} (s : Sel p l r) (s' : Sel q r r') (s'' : Sel u r' r'') : Ent l (p :: q :: u :: r'') := (Ent.sel s).trans (Ent.cons (Ent.sel2 s' s''))
theorem Ent.drop1 {p : HP} {r : List HP} (s : Sel p l r) : Ent l r := (Ent.sel s).trans Ent.drop
/-- an object to the front -/
theorem Ent.ob (b : Nat) {o : Obj} {r : List HP} [h : Has b l o r] : Ent l (SL.ob b o :: r) := Ent.sel h.sel

/-- slices cut -/
theorem ev_slice {t e : TypeId} {x : Operand} {lo hi : Option Operand} {A : Option Addr} {len cap a b z : Nat} (ht : P.underlying t = some (.slice e)) (hz : sizeIs P e z) (hx : ev ts x = some (.slice A len cap))
    (hlo : match lo with | some o => ∃ k, ev ts o = some (.int k (a : Int)) | none => a = 0) (hhi : match hi with | some o => ∃ k, ev ts o = some (.int k (b : Int)) | none => b = len) (h1 : a ≤ b) (h2 : b ≤ cap) :
    Ev P ts (.slice t x lo hi none) (.slice (if cap = a then A else A.map (·.add (a * z))) (b - a) (cap - a)) Any := by
  intro ac w _ _ _ _ _ kn _
  have hb : ((b : Int)).toNat = b := by omega
  have ha : ((a : Int)).toNat = a := by omega
  rcases lo with _ | lo <;> rcases hi with _ | hi
  · simp only at hlo hhi
    subst hlo; subst hhi
    simp [execOp, Instr.sliceAt, Instr.slice, run_underlying ht, kn.eval hx, Instr.sliceBounds, run_sizeIs hz]
  · obtain ⟨k, hk⟩ := hhi
    simp only at hlo
    subst hlo
    simp [execOp, Instr.sliceAt, Instr.slice, run_underlying ht, kn.eval hx, kn.eval hk, Instr.sliceBounds, Instr.sliceBound, asIntOf, run_sizeIs hz, h2]
  · obtain ⟨k, hk⟩ := hlo
    simp only at hhi
    subst hhi
    simp [execOp, Instr.sliceAt, Instr.slice, run_underlying ht, kn.eval hx, kn.eval hk, Instr.sliceBounds, Instr.sliceBound, asIntOf, run_sizeIs hz, h1]
  · obtain ⟨k, hk⟩ := hlo
    obtain ⟨k', hk'⟩ := hhi
    simp [execOp, Instr.sliceAt, Instr.slice, run_underlying ht, kn.eval hx, kn.eval hk, kn.eval hk', Instr.sliceBounds, Instr.sliceBound, asIntOf, run_sizeIs hz, h1, h2]
end
end Go.SL
