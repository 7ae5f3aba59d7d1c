/- New slices of so many elements; facts in the midst of a list. -/
import Derived.Test.YtagkobkmaigfcaaDoorEnc1
import Derived.Laws.MakeOwn
namespace Go.SL
open Go Go.RowKit
theorem Sel.left {p : HP} {l r : List HP} (s : Sel p l r) (m : List HP) : Sel p (l ++ m) (r ++ m) := by
  induction s with
  | head => exact .head
  | tail _ ih => exact .tail ih
theorem Sel.of_mem {p : HP} : ∀ {l : List HP}, p ∈ l → ∃ r, Sel p l r
  | [], h => by cases h
  | q :: l, h => by
    rcases List.mem_cons.1 h with rfl | h
    · exact ⟨l, .head⟩
    · obtain ⟨r, s⟩ := Sel.of_mem h
      exact ⟨q :: r, .tail s⟩

section
variable {P : Program} {E : Env} {n : Nat} {D : List Deferred} {ts : List (Nat × Value)} {l : List HP} {ops : Array Oper} {Q : Exit → Act → World → Prop} {i : Nat} {ty : TypeId} {pos : String} {af : Array Edge} {g : Option (Nat × Bool)}

theorem made_one (z : Value) (m : Nat) (hz : z.cells = #[z]) : madeCells z.cells (m * 1) = (List.replicate m z).toArray := by
  rw [hz]
  unfold madeCells
  apply Array.ext
  · simp
  · intro j h1 h2
    simp [Nat.mod_one]

/-- a new slice of so many elements of one cell -/
theorem o_make {t e : TypeId} {x : Operand} {z : Value} {m bytes : Nat} {K : Act → World → Prop} (hi : Nat.blt i n = true) (ht : P.underlying t = some (.slice e)) (hel : elemIs P e z 1 bytes) (hz : z.cells = #[z]) (hx : ev ts x = some (.int .i64 (m : Int))) (hb : bytes * m ≤ 281474976710656) (hm : m ≤ 9223372036854775807)
    (h : ∀ b, At E n D ((i, .slice (some ⟨b, 0, none⟩) m m) :: ts) (blk b e (List.replicate m z).toArray :: l) K) : At E n D ts l (fun a w => (Oper.mk (some i) (.makeSlice t x x) ty pos af g).wp P a w K Q) := fun a w f hw => by
  obtain ⟨ti, hti, e0, e1, e2⟩ := info_parts hel
  have hb' : (ti.bytes : Int) * (m : Int) ≤ 281474976710656 := by
    rw [e2]
    have : ((bytes * m : Nat) : Int) ≤ 281474976710656 := by omega
    rwa [Int.natCast_mul] at this
  have hr0 := run_make (P := P) w t e ti z ht hti e0 .i64 .i64 m m (by omega) (by omega) hb' (by omega)
  rw [Int.toNat_natCast, e1, made_one z m hz] at hr0
  have hr : (execOp a.eval (Oper.mk (some i) (.makeSlice t x x) ty pos af g)).run P w = .ok (.value (.slice (some ⟨w.heap.size, 0, none⟩) m m)) (w.alloc (.cells (List.replicate m z).toArray e)) := by
    simp only [execOp, f.eval hx, Sem.run_bind, hr0, Result.andThen_ok, Sem.run_pure]
  show (Oper.mk (some i) (.makeSlice t x x) ty pos af g).wp P a w K Q
  unfold Oper.wp
  rw [hr]
  exact h _ _ _ (f.put i (Nat.le_of_ble_eq_true hi) _) (hw.alloc _)
end
end Go.SL
namespace Go.Proofs.YtagkobkmaigfcaaDoor
open Go Go.RowKit Go.SL

theorem afts_mem {vs : List Value} {ns : List FK.Node} {i : Nat} {u : Value} {nd : FK.Node} (hu : vs[i]? = some u) (hn : ns[i]? = some nd) : intsAt u nd.after ∈ aftsAt vs ns :=
  List.mem_map.2 ⟨(u, nd), List.mem_of_getElem? (i := i) (by simp [List.getElem?_zip_eq_some, hn, hu]), rfl⟩

theorem Ent.set : ∀ (l : List HP) (i : Nat) (x : HP), Ent (x :: l) (l.set i x)
  | [], _, _ => Ent.drop
  | _ :: _, 0, _ => Ent.cons Ent.drop
  | _ :: l, i + 1, x => (Ent.perm (List.Perm.swap _ _ _)).trans (Ent.cons (Ent.set l i x))

theorem aftsAt_set : ∀ (vs : List Value) (ns : List FK.Node) (i : Nat) (u : Value) (nd : FK.Node), i < vs.length → aftsAt (vs.set i u) (ns.set i nd) = (aftsAt vs ns).set i (intsAt u nd.after)
  | [], _, _, _, _, h => by simp at h
  | _ :: _, [], i, _, _, _ => by cases i <;> rfl
  | _ :: _, _ :: _, 0, _, _, _ => rfl
  | v :: vs, m :: ns, i + 1, u, nd, h => by
    have := aftsAt_set vs ns i u nd (by simpa using h)
    simp only [aftsAt, List.set_cons_succ, List.zip_cons_cons, List.map_cons] at this ⊢
    rw [this]

theorem nodesV_set : ∀ (ns : List FK.Node) (vs : List Value) (i : Nat) (nd : FK.Node) (u : Value) (l : List Int), vs.length = ns.length → ns[i]? = some nd → (nodesV ns vs).set (i * 7 + 6) u = nodesV (ns.set i { nd with after := l }) (vs.set i u)
  | [], _, _, _, _, _, _, h => by simp at h
  | _ :: _, [], _, _, _, _, h, _ => by simp at h
  | m :: ns, v :: vs, 0, nd, u, l, _, h => by
    simp at h; subst h
    rfl
  | m :: ns, v :: vs, i + 1, nd, u, l, h, hn => by
    have := nodesV_set ns vs i nd u l (by simpa using h) (by simpa using hn)
    simp only [nodesV, List.set_cons_succ]
    rw [← this, List.set_append_right _ _ (by simp [nodeCells]; omega)]
    congr 2
    simp [nodeCells]
    omega
end Go.Proofs.YtagkobkmaigfcaaDoor
