/- Text and bytes. -/
import Derived.Test.YtagkobkmaigfcaaDoorSlR
import Derived.Laws.IdiomStrings
namespace Go.SL
open Go Go.RowKit
section
variable {P : Program} {E : Env} {n : Nat} {D : List Deferred} {ts : List (Nat × Value)} {l : List HP} {ops : Array Oper} {Q : Exit → Act → World → Prop} {rest : List Oper} {i : Nat} {ty : TypeId} {pos : String} {af : Array Edge} {g : Option (Nat × Bool)}

/-- these bytes lie at A -/
def BytesIs (A : Option Addr) (bs : List UInt8) (w : World) : Prop := (A = none → bs = []) ∧ ∀ b o, A = some ⟨b, o, none⟩ → ∀ j (hj : j < bs.length), w.cell? ⟨b, o + j, none⟩ = some (.int .u8 (bs[j].toNat : Int))

/-- bytes as a text -/
theorem ev_text {src dst e : TypeId} {x : Operand} {A : Option Addr} {c : Nat} {bs : List UInt8} (hs : P.underlying src = some (.slice e)) (he : P.underlying e = some (.int .u8)) (hd : P.underlying dst = some .string) (hA : ∀ ad, A = some ad → ∃ b o, ad = ⟨b, o, none⟩)
    (hx : ev ts x = some (.slice A bs.length c)) : Ev P ts (.convert src dst x) (.string ⟨bs.toArray⟩) (BytesIs A bs) := by
  intro a w _ _ _ _ _ kn hφ
  cases A with
  | none =>
    obtain rfl := hφ.1 rfl
    have hr : (convert src dst (.slice none ([] : List UInt8).length c)).run P w = .ok (.string .empty) w := by
      rw [run_convert_bytes_string w src dst e none _ c hs he hd]
      simp [Conv.bytesToString]
    simp only [execOp, kn.eval hx, Sem.run_bind, hr, Result.andThen_ok, Sem.run_pure]
    rfl
  | some ad =>
    obtain ⟨b, o, rfl⟩ := hA ad rfl
    have hr := run_convert_bytes_back (P := P) w src dst e ⟨b, o, none⟩ c bs hs he hd fun j hj => by rw [add_plain]; exact hφ.2 b o rfl j hj
    simp only [execOp, kn.eval hx, Sem.run_bind, hr, Result.andThen_ok, Sem.run_pure]

/-- a text as bytes: a new block -/
theorem o_bytes {src dst e : TypeId} {x : Operand} {s : ByteArray} {K : Act → World → Prop} (hi : Nat.blt i n = true) (hs : P.underlying src = some .string) (hd : P.underlying dst = some (.slice e)) (he : P.underlying e = some (.int .u8)) (hx : ev ts x = some (.string s))
    (h : ∀ b c fz, At E n D ((i, .slice (some ⟨b, 0, none⟩) s.size c) :: ts) (ob b (.cells (bytesRow s c) e fz) :: l) K) : At E n D ts l (fun a w => (Oper.mk (some i) (.convert src dst x) ty pos af g).wp P a w K Q) := fun a w ft hw => by
  have hr := run_bytes_of_string (P := P) w src dst e s hs hd he
  have : (execOp a.eval (Oper.mk (some i) (.convert src dst x) ty pos af g)).run P w = .ok (.value (.slice (some ⟨w.heap.size, 0, none⟩) s.size (grownCap w s.size 0 e))) (w.drew.alloc (.cells (bytesRow s (grownCap w s.size 0 e)) e ((bytesRow s (grownCap w s.size 0 e)).size, (bytesRow s (grownCap w s.size 0 e)).size + 1))) := by
    simp only [execOp, ft.eval hx, Sem.run_bind, hr, Result.andThen_ok, Sem.run_pure]
  show (Oper.mk (some i) (.convert src dst x) ty pos af g).wp P a w K Q
  unfold Oper.wp
  rw [this]
  exact h _ _ _ _ _ (ft.put i (Nat.le_of_ble_eq_true hi) _) ((hw.drawn _).alloc _)

theorem ev_neqStr {t t' : TypeId} {x y : Operand} {a b : ByteArray} {r : Bool} (_ht : P.underlying t = some .string) (hx : ev ts x = some (.string a)) (hy : ev ts y = some (.string b)) (hr : (!(a.toList == b.toList)) = r) : Ev P ts (.binOp .neq t x y t') (.bool r) Any := by
  intro ac w _ _ _ _ _ kn _
  subst hr
  exact exec_bin (kn.eval hx) (kn.eval hy) (by simp [eqGuard]) (by simp [binOp, Op.stringOp])
end
end Go.SL
