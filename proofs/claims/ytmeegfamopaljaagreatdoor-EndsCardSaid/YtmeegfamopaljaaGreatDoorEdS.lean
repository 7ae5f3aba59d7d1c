/- A disk in plain data. -/
import Derived.WalkKit
import Derived.Test.YtmeegfamopaljaaGreatDoorEdN
import Derived.Test.YtmeegfamopaljaaGreatDoorEdR
import Derived.Test.YtmeegfamopaljaaGreatDoorEdJ
import Derived.Laws.IdiomStrings
namespace FK
def fI {K V : Type} [BEq K] (m : List (K × V)) (a : K) (v : V) : List (K × V) := match m.findIdx? (·.1 == a) with
 | some j => m.set j (a, v)
 | none => m ++ [(a, v)]
def dx {K V : Type} [BEq K] (m : List (K × V)) (a : K) : Option V := (m.find? (·.1 == a)).map (·.2)
theorem qP {K V W : Type} [BEq K] (m : List (K × V)) (f : V → W) (a : K) : (m.map fun p => (p.1, f p.2)).findIdx? (·.1 == a) = m.findIdx? (·.1 == a) := by
 induction m with
 | nil => rfl
 | cons p m ih => simp only [List.map_cons, List.findIdx?_cons, ih]
theorem w6 {K V W : Type} [BEq K] (m : List (K × V)) (f : V → W) (a : K) (v : V) : fI (m.map fun p => (p.1, f p.2)) a (f v) = (fI m a v).map fun p => (p.1, f p.2) := by
 unfold fI
 rw [qP]
 cases m.findIdx? (·.1 == a) with
 | none => simp
 | some j => simp [List.map_set]
structure DOp where
 kind : Int
 name : ByteArray
 data : ByteArray
abbrev lC := List (ByteArray × ByteArray)
structure Dsk where
 dur : lC
 now : lC
 pend : List DOp
 left : Int
 full : Int
 down : Bool
def cP (fs : lC) (o : DOp) : lC := if o.kind = 2 then fI fs o.name (match dx fs o.name with | some w => w ++ o.data | none => o.data) else if o.kind = 1 then fI fs o.name o.data else if o.kind = 3 then fs.eraseP (·.1 == o.name) else fs
def Dsk.writes (d : Dsk) : Dsk × Int := if d.down = true ∨ d.left = 0 then ({ d with down := true }, 11) else if d.full = 0 then ({ d with left := Go.IntKind.i64.wrap (d.left - 1), full := -1 }, 10) else ({ d with left := Go.IntKind.i64.wrap (d.left - 1), full := Go.IntKind.i64.wrap (d.full - 1) }, 0)
def Dsk.tell (d : Dsk) (o : DOp) : Dsk × Int :=
 if d.writes.2 = 11 then ({ d.writes.1 with pend := d.writes.1.pend ++ [o] }, 11) else if d.writes.2 ≠ 0 then d.writes else if o.kind = 3 ∧ dx d.writes.1.now o.name = none then (d.writes.1, 9) else ({ d.writes.1 with now := cP d.writes.1.now o, pend := d.writes.1.pend ++ [o] }, 0)
def Dsk.sync (d : Dsk) : Dsk × Int := if d.writes.2 ≠ 0 then d.writes else ({ d.writes.1 with dur := d.writes.1.pend.foldl cP d.writes.1.dur, pend := [] }, 0)
def kD (fs : lC) : Nat := (fs.map fun x => x.2.size).sum
def gJ (l : List DOp) : Nat := (l.map fun o => o.data.size).sum
theorem qf {fs : lC} {n w : ByteArray} (h : dx fs n = some w) : w.size ≤ kD fs := by
 unfold dx at h
 induction fs with
 | nil => cases h
 | cons x fs ih =>
  rw [List.find?_cons] at h
  unfold kD at ih ⊢
  rw [List.map_cons, List.sum_cons]
  cases hx : x.1 == n with
  | true => rw [hx] at h; simp at h; subst h; omega
  | false => rw [hx] at h; have := ih h; omega
theorem px {K V : Type} [BEq K] {m : List (K × V)} {a : K} (h : dx m a = none) (v : V) : fI m a v = m ++ [(a, v)] := by
 unfold fI
 have : m.findIdx? (·.1 == a) = none := by
  rw [List.findIdx?_eq_none_iff]
  intro x hx
  unfold dx at h
  cases hf : m.find? (·.1 == a) with
  | none =>
   have := List.find?_eq_none.1 hf x hx
   simpa using this
  | some y => rw [hf] at h; cases h
 rw [this]
theorem yP {l : List Nat} : ∀ {j x y : Nat}, l[j]? = some x → (l.set j y).sum + x = l.sum + y := by
 induction l with
 | nil => intro j x y h; simp at h
 | cons a l ih =>
  intro j x y h
  cases j with
  | zero => simp at h; subst h; simp; omega
  | succ j => have := ih (y := y) (by simpa using h); simp only [List.set_cons_succ, List.sum_cons]; omega
theorem zq {K V : Type} [BEq K] {m : List (K × V)} {a : K} {j : Nat} (h : m.findIdx? (·.1 == a) = some j) : ∃ x, m[j]? = some x ∧ dx m a = some x.2 := by
 induction m generalizing j with
 | nil => simp at h
 | cons y m ih =>
  rw [List.findIdx?_cons] at h
  unfold dx at ih ⊢
  rw [List.find?_cons]
  cases hy : y.1 == a with
  | true => rw [hy] at h; simp at h; subst h; exact ⟨y, rfl, rfl⟩
  | false =>
   rw [hy] at h
   simp only [Bool.false_eq_true, if_false, Option.map_eq_some_iff] at h
   obtain ⟨i, hi, rfl⟩ := h
   obtain ⟨x, h1, h2⟩ := ih hi
   exact ⟨x, by simpa using h1, h2⟩
theorem vb {fs : lC} {n s : ByteArray} : kD (fI fs n s) + (match dx fs n with | some w => w.size | none => 0) = kD fs + s.size := by
 cases hf : fs.findIdx? (·.1 == n) with
 | none =>
  have hg : dx fs n = none := by
   unfold dx
   cases h : fs.find? (·.1 == n) with
   | none => rfl
   | some y =>
    have h1 := List.find?_some h
    have h2 := List.findIdx?_eq_none_iff.1 hf y (List.mem_of_find?_eq_some h)
    rw [h1] at h2; cases h2
  rw [px hg, hg]
  simp [kD]
 | some j =>
  obtain ⟨x, h1, h2⟩ := zq hf
  rw [h2]
  have : fI fs n s = fs.set j (n, s) := by unfold fI; rw [hf]
  rw [this]
  unfold kD
  rw [List.map_set]
  exact yP (by rw [List.getElem?_map, h1]; rfl)
theorem Aj {fs : lC} {n : ByteArray} : kD (fs.eraseP (·.1 == n)) ≤ kD fs := by
 induction fs with
 | nil => exact Nat.le_refl _
 | cons x fs ih =>
  rw [List.eraseP_cons]
  unfold kD at ih ⊢
  cases x.1 == n with
  | true => simp
  | false => simp; omega
theorem tj (fs : lC) (o : DOp) : kD (cP fs o) ≤ kD fs + o.data.size := by
 unfold cP
 split
 · have := @vb fs o.name (match dx fs o.name with | some w => w ++ o.data | none => o.data)
   cases h : dx fs o.name with
   | none => rw [h] at this; simp at this ⊢; omega
   | some w => rw [h] at this; simp [ByteArray.size_append] at this ⊢; omega
 · split
   · have := @vb fs o.name o.data
     omega
   · split
     · have := @Aj fs o.name
       omega
     · omega
theorem rj : ∀ (l : List DOp) (fs : lC), kD (l.foldl cP fs) ≤ kD fs + gJ l
 | [], _ => Nat.le_refl _
 | o :: l, fs => by
  have h1 := rj l (cP fs o)
  have h2 := tj fs o
  have h3 : gJ (o :: l) = o.data.size + gJ l := by simp [gJ]
  rw [List.foldl_cons, h3]
  omega
end FK

namespace Go.SL
open Go Go.RowKit
section
variable {P : Program} {E : Env} {n : Nat} {D : List Deferred} {ts : List (Nat × Value)} {l : List HP} {ops : Array Oper} {Q : Exit → Act → World → Prop} {i : Nat} {ty : TypeId} {pos : String} {af : Array Edge} {g : Option (Nat × Bool)} {K : Type} [BEq K] {enc : K → Value}
theorem sa {m : List (K × Value)} {a : K} (h : m.findIdx? (·.1 == a) = none) : cw m a = none := by
 have := ey m a
 rw [h] at this
 simpa using this.symm
theorem pV {t kt et : TypeId} {x y z : Operand} {b : Nat} {m : List (K × Value)} {a : K} {v : Value} {r : List HP} {d : Option Tmp} {Kk : Act → World → Prop} (hd : d = none) (ht : P.underlying t = some (.map kt et)) (hk : KeyK P kt K enc) (hx : ev ts x = some (.map (some b))) (hy : ev ts y = some (enc a)) (hz : ev ts z = some v)
 (s : Sel (bF enc b m) l r) (h : At E n D ts (bF enc b (FK.fI m a v) :: r) Kk) : At E n D ts l (fun ac w => (Oper.mk d (.mapUpdate t x y z) ty pos af g).wp P ac w Kk Q) := by
 cases hf : m.findIdx? (·.1 == a) with
 | none =>
  have hp : FK.fI m a v = m ++ [(a, v)] := by unfold FK.fI; rw [hf]
  rw [hp] at h
  exact pW hd ht hk hx hy hz s (sa hf) h
 | some j =>
  have hp : FK.fI m a v = m.set j (a, v) := by unfold FK.fI; rw [hf]
  rw [hp] at h
  intro ac w f hw
  subst hd
  have hw' := hw.sel s
  obtain ⟨es, c, hb, hm, hs1, hs2⟩ := fv .head w hw'
  have h1 := hk.find w es.toList m a hm
  rw [hf] at h1
  have hg := MapKept.run_getObj_map (P := P) hb
  obtain ⟨hjl, hj1, _⟩ := List.findIdx?_eq_some_iff_getElem.1 hf
  have hmj : m[j]? = some m[j] := List.getElem?_eq_getElem hjl
  have hlen : es.toList.length = m.length := by simpa using congrArg List.length hm
  have hej : ∃ e, es[j]? = some e ∧ e.key = enc m[j].1 := by
   have := congrArg (fun l => l[j]?) hm
   simp only [List.getElem?_map, hmj, Option.map_some] at this
   cases he : es.toList[j]? with
   | none => rw [he] at this; cases this
   | some e =>
    rw [he] at this
    simp only [Option.map_some, Option.some.injEq, Prod.mk.injEq] at this
    exact ⟨e, by rw [← Array.getElem?_toList]; exact he, this.1⟩
  obtain ⟨e, he, hek⟩ := hej
  have hstay : (Instr.keyThatStays (((es[j]?).map (·.key)).getD (enc a)) (enc a)).run P w = .ok (enc a) w := by
   rw [he]
   simp [Instr.keyThatStays, hek, hk.bits _ _ hj1]
  have hs := MapKept.run_setObj_map (P := P) (.map (es.modify j fun e => { e with key := enc a, val := v }) c) hb
  have hr : (execOp ac.eval (Oper.mk none (.mapUpdate t x y z) ty pos af g)).run P w = .ok .skip { w with heap := w.heap.setIfInBounds b (.map (es.modify j fun e => { e with key := enc a, val := v }) c) } := by
   simp only [execOp, f.eval hx, f.eval hy, f.eval hz, Instr.mapUpdate, Sem.run_bind, run_underlying ht, Result.andThen_ok, hg, hk.check, h1, Option.map_some, hstay, hs, Sem.run_pure]
  show (Oper.mk none (.mapUpdate t x y z) ty pos af g).wp P ac w Kk Q
  unfold Oper.wp
  rw [hr]
  have hmod : ∀ k, ((es.modify j fun e => { e with key := enc a, val := v }).toList)[k]? = (es.toList[k]?).map fun e => if j = k then { e with key := enc a, val := v } else e := fun k => by
   rw [Array.toList_modify, List.getElem?_modify]
   rfl
  have hborn : (es.modify j fun e => { e with key := enc a, val := v }).toList.map (·.born) = es.toList.map (·.born) := by
   apply List.ext_getElem?
   intro k
   rw [List.getElem?_map, List.getElem?_map, hmod, Option.map_map]
   congr 1
   funext e
   simp only [Function.comp_apply]
   split <;> rfl
  refine h ac _ f (hw'.setVMap ?_ (fun y hy => ?_) ?_)
  · apply List.ext_getElem?
    intro k
    rw [List.getElem?_map, hmod, List.getElem?_map]
    have hmk := congrArg (fun l => l[k]?) hm
    simp only [List.getElem?_map] at hmk
    by_cases hjk : j = k
    · subst hjk
      rw [List.getElem?_set_self hjl]
      rw [Array.getElem?_toList, he]
      simp
    · rw [List.getElem?_set_ne hjk, ← hmk, Option.map_map]
      congr 1
      funext e
      simp [hjk]
  · have : y.born ∈ (es.modify j fun e => { e with key := enc a, val := v }).toList.map (·.born) := List.mem_map_of_mem (f := (·.born)) hy
    rw [hborn] at this
    obtain ⟨e', he', hq⟩ := List.mem_map.1 this
    rw [← hq]
    exact hs1 e' he'
  · rw [hborn]
    exact hs2
end
end Go.SL

namespace Go.Proofs.YtmeegfamopaljaaGreatDoor
open Go Go.RowKit Go.SL
variable {G : Env → Prop}
abbrev eR (e : Int) : Value := if e = 0 then .nilIface else .iface 48 (.int .i64 e)
abbrev bG (s : ByteArray) : Value := .string s
theorem gM : KeyK Tryz.prog 9 ByteArray bG := B9 (by kernel_rfl)
def cW (P : List (Nat × ByteArray)) : HP := HP.all (P.map fun c => blk c.1 9 #[bG c.2])
inductive Names (P : List (Nat × ByteArray)) : List (ByteArray × Nat) → FK.lC → Prop where
 | nil : Names P [] []
 | cons {M : List (ByteArray × Nat)} {fs : FK.lC} {n s : ByteArray} {b : Nat} (h : (b, s) ∈ P) (t : Names P M fs) : Names P ((n, b) :: M) ((n, s) :: fs)
theorem Names.mono {P P' : List (Nat × ByteArray)} (h : ∀ c ∈ P, c ∈ P') : ∀ {M : List (ByteArray × Nat)} {fs : FK.lC}, Names P M fs → Names P' M fs
 | _, _, .nil => .nil
 | _, _, .cons a t => .cons (h _ a) (t.mono h)
theorem Names.get {P : List (Nat × ByteArray)} (n : ByteArray) : ∀ {M : List (ByteArray × Nat)} {fs : FK.lC}, Names P M fs → (FK.dx M n = none ∧ FK.dx fs n = none) ∨ ∃ b s, FK.dx M n = some b ∧ FK.dx fs n = some s ∧ (b, s) ∈ P
 | _, _, .nil => .inl ⟨rfl, rfl⟩
 | _, _, .cons (M := M) (fs := fs) (n := k) (s := s) (b := b) a t => by
  have ih := t.get n
  unfold FK.dx at ih ⊢
  rw [List.find?_cons, List.find?_cons]
  cases hk : k == n with
  | true => exact .inr ⟨b, s, by simp, by simp, a⟩
  | false => exact ih
theorem Names.idx {P : List (Nat × ByteArray)} (n : ByteArray) : ∀ {M : List (ByteArray × Nat)} {fs : FK.lC}, Names P M fs → M.findIdx? (·.1 == n) = fs.findIdx? (·.1 == n)
 | _, _, .nil => rfl
 | _, _, .cons _ t => by
  rw [List.findIdx?_cons, List.findIdx?_cons, t.idx n]
theorem Names.set {P : List (Nat × ByteArray)} {n s : ByteArray} {b : Nat} (h : (b, s) ∈ P) : ∀ {M : List (ByteArray × Nat)} {fs : FK.lC} (j : Nat), Names P M fs → Names P (M.set j (n, b)) (fs.set j (n, s))
 | _, _, _, .nil => .nil
 | _, _, 0, .cons _ t => .cons h t
 | _, _, j + 1, .cons a t => .cons a (t.set h j)
theorem Names.snoc {P : List (Nat × ByteArray)} {n s : ByteArray} {b : Nat} (h : (b, s) ∈ P) : ∀ {M : List (ByteArray × Nat)} {fs : FK.lC}, Names P M fs → Names P (M ++ [(n, b)]) (fs ++ [(n, s)])
 | _, _, .nil => .cons h .nil
 | _, _, .cons a t => .cons a (t.snoc h)
theorem Names.put {P : List (Nat × ByteArray)} {n s : ByteArray} {b : Nat} {M : List (ByteArray × Nat)} {fs : FK.lC} (t : Names P M fs) (h : (b, s) ∈ P) : Names P (FK.fI M n b) (FK.fI fs n s) := by
 unfold FK.fI
 rw [t.idx n]
 cases fs.findIdx? (·.1 == n) with
 | none => exact t.snoc h
 | some j => exact t.set h j
theorem Names.del {P : List (Nat × ByteArray)} (n : ByteArray) : ∀ {M : List (ByteArray × Nat)} {fs : FK.lC}, Names P M fs → Names P (M.eraseP (·.1 == n)) (fs.eraseP (·.1 == n))
 | _, _, .nil => .nil
 | _, _, .cons (n := k) a t => by
  rw [List.eraseP_cons, List.eraseP_cons]
  cases k == n with
  | true => exact t
  | false => exact .cons a (t.del n)
abbrev cC (M : List (ByteArray × Nat)) : List (ByteArray × Value) := M.map fun x => (x.1, aL x.2)
def aS (mb : Nat) (P : List (Nat × ByteArray)) (fs : FK.lC) : HP := HP.ex fun M : List (ByteArray × Nat) => HP.all [HP.pure (Names P M fs), bF bG mb (cC M)]
abbrev kf (o : FK.DOp) : List Value := [.int .i64 o.kind, bG o.name, bG o.data]
abbrev fm (l : List FK.DOp) : List Value := l.flatMap kf
theorem iF (M : List (ByteArray × Nat)) (n : ByteArray) : cw (cC M) n = (FK.dx M n).map aL := by
 unfold cw FK.dx
 rw [List.find?_map]
 show Option.map _ (Option.map _ (M.find? (·.1 == n))) = _
 cases M.find? (·.1 == n) <;> rfl
theorem ru (M : List (ByteArray × Nat)) (n : ByteArray) (b : Nat) : FK.fI (cC M) n (aL b) = cC (FK.fI M n b) := FK.w6 M (fun b => aL b) n b
theorem y1 (M : List (ByteArray × Nat)) (n : ByteArray) : (cC M).eraseP (·.1 == n) = cC (M.eraseP (·.1 == n)) := by
 unfold cC
 rw [List.eraseP_map]
 rfl
section
variable {E : Env} {l r : List HP}
theorem rx {P : List (Nat × ByteArray)} {b : Nat} {s : ByteArray} (h : (b, s) ∈ P) (S : Sel (cW P) l r) : ∀ w, Holds E w l → bI ⟨b, 0, none⟩ (bG s) w := fun w hw => by
 obtain ⟨F1, _, _, _, _, hp, _⟩ := (hw.sel S).star
 have hp' : Star w (P.map fun c : Nat × ByteArray => blk c.1 9 #[bG c.2]) F1 := hp
 have h2 : (blk b 9 #[bG s]).sat w F1 := Star.mem hp' (List.mem_map.2 ⟨(b, s), h, rfl⟩)
 have := h2.2
 simp [bI, World.cell?, this]
theorem uL {P : List (Nat × ByteArray)} {b : Nat} {s : ByteArray} : Ent (blk b 9 #[bG s] :: cW P :: r) (cW ((b, s) :: P) :: r) := by
 refine (Ent.cons (Ent.unall (m := P.map fun c => blk c.1 9 #[bG c.2]))).trans ?_
 exact Ent.all (m := ((b, s) :: P).map fun c => blk c.1 9 #[bG c.2])
theorem bQ {P : List (Nat × ByteArray)} {mb : Nat} {fs : FK.lC} {M : List (ByteArray × Nat)} (h : Names P M fs) : Ent (bF bG mb (cC M) :: r) (aS mb P fs :: r) :=
 (Ent.pure h).trans ((Ent.all (m := [HP.pure (Names P M fs), bF bG mb (cC M)])).trans (Ent.ex (f := fun M : List (ByteArray × Nat) => HP.all [HP.pure (Names P M fs), bF bG mb (cC M)]) M))
theorem jh {P : List (Nat × ByteArray)} {mb : Nat} {fs : FK.lC} {M : List (ByteArray × Nat)} {n s : ByteArray} {b : Nat} (h : Names P M fs) : Ent (bF bG mb (FK.fI (cC M) n (aL b)) :: blk b 9 #[bG s] :: cW P :: r) (aS mb ((b, s) :: P) (FK.fI fs n s) :: cW ((b, s) :: P) :: r) := by
 rw [ru]
 exact (Ent.cons uL).trans (bQ ((h.mono fun c hc => .tail _ hc).put (.head _)))
theorem iA {P P' : List (Nat × ByteArray)} {mb : Nat} {fs : FK.lC} (h : ∀ c ∈ P, c ∈ P') : Ent (aS mb P fs :: r) (aS mb P' fs :: r) := fun w F ⟨F1, F2, h1, h2, hd, ⟨M, hp⟩, hl⟩ => by
 have hn : Names P M fs := Star.mem (p := HP.pure (Names P M fs)) (l := [HP.pure (Names P M fs), bF bG mb (cC M)]) hp (by simp)
 obtain ⟨G1, G2, g1, g2, gd, _, g4⟩ := hp
 exact ⟨F1, F2, h1, h2, hd, ⟨M, G1, G2, g1, g2, gd, hn.mono h, g4⟩, hl⟩
end
theorem pH {P : Program} {ts : List (Nat × Value)} {t t' : TypeId} {x y : Operand} {a b : ByteArray} (hx : ev ts x = some (.string a)) (hy : ev ts y = some (.string b)) (hl : a.size + b.size ≤ 9223372036854775807) : Ev P ts (.binOp .add t x y t') (.string (a ++ b)) Any := by
 intro ac w _ _ _ _ _ kn _
 refine dp (kn.eval hx) (kn.eval hy) (by simp [eqGuard]) ?_
 have : ¬ (((a.size + b.size : Nat) : Int) > IntKind.i64.max) := by
  rw [show IntKind.i64.max = 9223372036854775807 from rfl]
  omega
 simp only [binOp, Op.stringOp]
 rw [if_neg this]
 rfl
structure DA where
 md : Nat
 mn : Nat
 pv : Value
 P : List (Nat × ByteArray)
abbrev eX (q : DA) (σ : FK.Dsk) : Array Value := #[.map (some q.md), .map (some q.mn), q.pv, .int .i64 σ.left, .int .i64 σ.full, .bool σ.down]
abbrev yb (d : Nat) (q : DA) (σ : FK.Dsk) : List HP := [blk d 131 (eX q σ), aS q.md q.P σ.dur, aS q.mn q.P σ.now, cW q.P, row 211 3 q.pv σ.pend.length (fm σ.pend)]
def ak (d : Nat) (σ : FK.Dsk) : HP := HP.ex fun q : DA => HP.all (yb d q σ)
abbrev ko (d : Nat) (q : DA) (σ : FK.Dsk) (r : List HP) : List HP := blk d 131 (eX q σ) :: aS q.md q.P σ.dur :: aS q.mn q.P σ.now :: cW q.P :: row 211 3 q.pv σ.pend.length (fm σ.pend) :: r
theorem bJ {d : Nat} (q : DA) (σ : FK.Dsk) {r : List HP} : Ent (yb d q σ ++ r) (ak d σ :: r) := Ent.all.trans (Ent.ex (f := fun q : DA => HP.all (yb d q σ)) q)
set_option maxRecDepth 10000 in
theorem me {d : Nat} {σ : FK.Dsk} : Does Tryz.prog G 335 [aL d].toArray [ak d σ] fun v m => v = eR σ.writes.2 ∧ m = [ak d σ.writes.1] := by
 obtain ⟨dur, now, pend, left, full, down⟩ := σ
 refine Does.body Tryz.func335 Z Z fun E fr hE => ?_
 refine ai ?_
 refine At.ex .head fun q => bn ?_
 refine At.ent (l' := ko d q ⟨dur, now, pend, left, full, down⟩ fr) (Ent.refl _) ?_
 refine At.seq (At.region (L.as Z Z (L.nil (At.then (At.seq (At.seq (At.region (L.mv Z Z (aN Z Z (aE 5 Z Z Z (L.bool Z (aa Z Z) (ae Z) fun c6 e6 => (L.mv Z Z ?_))))))))))))
 refine m7 c6 (by rfl) ?_
 refine L.g Z Z (fun _ => rfl) (ag Z) (fun _ _ => trivial) ?_
 refine m7 c6 (by rfl) ?_
 refine L.g Z Z (fun _ => rfl) (aq Z) (fun _ _ => trivial) ?_
 refine m7 c6 (by rfl) ?_
 refine L.g Z Z (fun _ => rfl) (ab (off := 3) Z Z) (fun _ _ => trivial) ?_
 refine m7 c6 (by rfl) ?_
 refine L.g Z Z (fun _ => rfl) (aa Z Z) (ae Z) ?_
 refine m7 c6 (by rfl) ?_
 refine L.g Z Z (fun _ => rfl) (aV Z Z Z) (fun _ _ => trivial) ?_
 refine L.bool Z (xo Z Z Z) (fun _ _ => trivial) fun c13 e13 => (L.nil (At.then ?_))
 refine eD Z (fun h13 => ?_) (fun h13 => ?_)
 ·
  have hc : down = true ∨ left = 0 := by rw [e13, e6] at h13; simpa using h13
  have hw : FK.Dsk.writes ⟨dur, now, pend, left, full, down⟩ = (⟨dur, now, pend, left, full, true⟩, 11) := by unfold FK.Dsk.writes; rw [if_pos hc]
  rw [hw]
  refine At.seq (At.region (L.mv Z Z (aN Z Z (aE 5 Z Z Z ?_))))
  refine L.st Z Z Z Z (by first | decide | simp | (simp; omega)) ?_
  refine L.nil (At.then (At.seq (At.region (L.pure Z (cG Z Z Z) (L.as Z Z (L.nil (At.then (At.ret (aI ?_)))))))))
  refine aA [_] rfl Z ⟨rfl, rfl⟩ ?_
  exact (bJ (d := d) q ⟨dur, now, pend, left, full, true⟩)
 ·
  have hc : ¬ (down = true ∨ left = 0) := by rw [e13, e6] at h13; simpa using h13
  refine At.skip (At.then (At.seq (At.region (L.mv Z Z (aN Z Z (aE 3 Z Z Z (aX Z Z Z Z (L.pure Z (eQ Z Z Z) (aN Z Z (aE 3 Z Z Z ?_))))))))))
  refine L.st Z Z Z Z (by first | decide | simp | (simp; omega)) ?_
  refine L.nil (At.then (At.seq (At.seq (At.region (L.mv Z Z (aN Z Z (aE 4 Z Z Z (aX Z Z Z Z (L.pure Z (aV Z Z Z) (L.nil (At.then ?_)))))))))))
  refine aC Z (fun c29 => ?_) (fun c29 => ?_)
  ·
   have hw : FK.Dsk.writes ⟨dur, now, pend, left, full, down⟩ = (⟨dur, now, pend, IntKind.i64.wrap (left - 1), -1, down⟩, 10) := by unfold FK.Dsk.writes; rw [if_neg hc, if_pos c29]
   rw [hw]
   refine At.seq (At.region (L.mv Z Z (aN Z Z (aE 4 Z Z Z ?_))))
   refine L.st Z Z Z Z (by first | decide | simp | (simp; omega)) ?_
   refine L.nil (At.then (At.seq (At.region (L.pure Z (cG Z Z Z) (L.as Z Z (L.nil (At.then (At.ret (aI ?_)))))))))
   refine aA [_] rfl Z ⟨rfl, rfl⟩ ?_
   exact (bJ (d := d) q ⟨dur, now, pend, IntKind.i64.wrap (left - 1), -1, down⟩)
  ·
   have hw : FK.Dsk.writes ⟨dur, now, pend, left, full, down⟩ = (⟨dur, now, pend, IntKind.i64.wrap (left - 1), IntKind.i64.wrap (full - 1), down⟩, 0) := by unfold FK.Dsk.writes; rw [if_neg hc, if_neg c29]
   rw [hw]
   refine At.skip (At.then (At.seq (At.region (L.mv Z Z (aN Z Z (aE 4 Z Z Z (aX Z Z Z Z (L.pure Z (eQ Z Z Z) (aN Z Z (aE 4 Z Z Z ?_))))))))))
   refine L.st Z Z Z Z (by first | decide | simp | (simp; omega)) ?_
   refine L.nil (At.then (At.seq (At.region (L.as Z Z (L.nil (At.then (At.ret ?_)))))))
   refine aA [_] rfl Z ⟨rfl, rfl⟩ ?_
   exact (bJ (d := d) q ⟨dur, now, pend, IntKind.i64.wrap (left - 1), IntKind.i64.wrap (full - 1), down⟩)
set_option maxRecDepth 10000 in
theorem qu {mb : Nat} {P : List (Nat × ByteArray)} {fs : FK.lC} {o : FK.DOp} (hsz : o.kind = 2 → ∀ w, FK.dx fs o.name = some w → w.size + o.data.size ≤ 9223372036854775807) : Does Tryz.prog G 131 [.map (some mb), .agg (kf o).toArray].toArray [aS mb P fs, cW P] fun v m => v = .tuple #[] ∧ ∃ P', (∀ c ∈ P, c ∈ P') ∧ m = [aS mb P' (FK.cP fs o), cW P'] := by
 have hmono : ∀ b s, ∀ c ∈ P, c ∈ (b, s) :: P := fun b s c hc => .tail _ hc
 refine Does.body Tryz.func131 Z Z fun E fr hE => ?_
 refine aF ?_
 refine At.ex .head fun M => bn ?_
 refine At.ent (l' := HP.pure (Names P M fs) :: bF bG mb (cC M) :: cW P :: fr) (Ent.refl _) (At.pure .head fun hN => (At.seq (At.region (L.op Z (cc Z Z fun b3 => (L.nil (At.then (At.seq (At.region (aE 2 Z Z Z (aX Z Z Z Z ?_)))))))))))
 refine L.op Z (aH (z := .string ⟨#[]⟩) Z Z fun b4 => ?_)
 refine L.st Z Z Z Z (by first | decide | simp | (simp; omega)) ?_
 refine L.nil (At.then (At.seq (ax b4 #[bG o.data] rfl (At.region (aE 0 Z Z Z (aX Z Z Z Z (L.nil (At.then (At.block (At.seq (At.region (L.pure Z (aV Z Z Z) (L.as Z Z (L.nil (At.then ?_)))))))))))))))
 refine aC Z (fun c11 => ?_) (fun c11 => ?_)
 ·
  have hdo : FK.cP fs o = FK.fI fs o.name (match FK.dx fs o.name with | some w => w ++ o.data | none => o.data) := by unfold FK.cP; rw [if_pos c11]; first | done | rfl
  rw [hdo]
  refine At.seq (At.seq ?_)
  by_cases HG : ∃ b s, FK.dx M o.name = some b ∧ FK.dx fs o.name = some s ∧ (b, s) ∈ P
  ·
   obtain ⟨ob, os, hM, hF, hP⟩ := HG
   rw [hF]
   refine At.region (L.mv Z Z (aE 1 Z Z Z (aX Z Z Z Z ?_)))
   refine L.val Z (iR (a := o.name) (v := aL ob) Z gM Z Z (by rw [iF, hM]; rfl)) (fv (b := mb) (m := cC M) (.tail (.tail .head))) ?_
   refine L.mv Z Z (L.ex Z Z Z (L.ex Z Z Z (L.as Z Z (L.as Z Z (L.nil (At.then (At.seq (At.region (L.mv Z Z (L.nil (At.then (aR Z (Dr.start Z (dP 0 Z Z (ag Z) (dP 1 Z Z (aq Z) (dL 2 Z Z (aa (v := bG os) Z Z) (rx hP (.tail (.tail (.tail .head)))) (dL 3 Z Z (aa Z Z) (ae Z) (dP 4 Z Z (pH Z Z (hsz c11 os hF)) ?_))))))))))))))))))
   refine dR 5 Z Z (bC Z Z Z Z Z (by first | decide | simp | (simp; omega)) ?_)
   refine Dr.kept [false, false] (by kernel_rfl) Kept.nil ?_
   refine dE (At.then (ax b4 #[bG (os ++ o.data)] rfl (At.region (L.mv Z Z (aE 1 Z Z Z (aX Z Z Z Z (L.op Z (pV Z Z gM Z Z Z (.tail (.tail .head)) (L.nil (al ?_))))))))))
   exact aZ [_, _] rfl ⟨rfl, (b4, os ++ o.data) :: P, hmono _ _, rfl⟩ ((bX .head .head (.tail .head)).trans ((jh hN).trans (Ent.cons (Ent.cons Ent.drop))))
  ·
   obtain ⟨hM, hF⟩ : FK.dx M o.name = none ∧ FK.dx fs o.name = none := by rcases hN.get o.name with h | h; exact h; exact absurd h HG
   rw [hF]
   refine At.region (L.mv Z Z (aE 1 Z Z Z (aX Z Z Z Z ?_)))
   refine L.val Z (j7 (m := cC M) (a := o.name) Z gM Z Z Z (by rw [iF, hM]; rfl)) (fv (b := mb) (m := cC M) (.tail (.tail .head))) ?_
   refine L.mv Z Z (L.ex Z Z Z (L.ex Z Z Z (L.as Z Z (L.as Z Z (L.nil (At.then (At.seq (At.region (L.mv Z Z (L.nil (At.then (aj Z (At.skip (At.then (At.region (L.mv Z Z (aE 1 Z Z Z (aX Z Z Z Z (L.op Z (pV Z Z gM Z Z Z (.tail (.tail .head)) ?_))))))))))))))))))))
   refine L.nil (al ?_)
   exact aZ [_, _] rfl ⟨rfl, (b4, o.data) :: P, hmono _ _, rfl⟩ ((bX .head .head (.tail .head)).trans ((jh hN).trans (Ent.cons (Ent.cons Ent.drop))))
 ·
  refine At.seq (At.region (L.pure Z (aV Z Z Z) (L.as Z Z (L.nil (At.then ?_)))))
  refine aC Z (fun c29 => ?_) (fun c29 => ?_)
  ·
   have hdo : FK.cP fs o = FK.fI fs o.name o.data := by unfold FK.cP; rw [if_neg c11, if_pos c29]
   rw [hdo]
   refine At.region (L.mv Z Z (aE 1 Z Z Z (aX Z Z Z Z (L.op Z (pV Z Z gM Z Z Z (.tail (.tail .head)) (L.nil (al ?_)))))))
   exact aZ [_, _] rfl ⟨rfl, (b4, o.data) :: P, hmono _ _, rfl⟩ ((bX .head .head (.tail .head)).trans ((jh hN).trans (Ent.cons (Ent.cons Ent.drop))))
  ·
   refine At.seq (At.region (L.pure Z (aV Z Z Z) (L.as Z Z (L.nil (At.then ?_)))))
   refine aC Z (fun c34 => ?_) (fun c34 => ?_)
   ·
    have hdo : FK.cP fs o = fs.eraseP (·.1 == o.name) := by unfold FK.cP; rw [if_neg c11, if_neg c29, if_pos c34]
    rw [hdo]
    refine At.region (L.mv Z Z (aE 1 Z Z Z (aX Z Z Z Z (L.op Z (pX Z Z gM Z Z (.tail (.tail .head)) (L.nil (al ?_)))))))
    rw [y1]
    exact aZ [_, _] rfl ⟨rfl, P, fun _ h => h, rfl⟩ ((aK .head (.tail (.tail .head))).trans ((bQ (hN.del o.name)).trans (Ent.cons (Ent.cons (Ent.drop.trans Ent.drop)))))
   ·
    have hdo : FK.cP fs o = fs := by unfold FK.cP; rw [if_neg c11, if_neg c29, if_neg c34]
    rw [hdo]
    refine At.skip (al ?_)
    exact aZ [_, _] rfl ⟨rfl, P, fun _ h => h, rfl⟩ ((aK (.tail (.tail .head)) (.tail (.tail .head))).trans ((bQ hN).trans (Ent.cons (Ent.cons (Ent.drop.trans Ent.drop)))))
end Go.Proofs.YtmeegfamopaljaaGreatDoor

namespace Go.SL
open Go Go.RowKit
section
variable {P : Program} {E : Env} {n : Nat} {D : List Deferred} {ts : List (Nat × Value)} {l : List HP} {ops : Array Oper} {Q : Exit → Act → World → Prop} {rest : List Oper} {i : Nat} {ty : TypeId} {pos : String} {af : Array Edge} {g : Option (Nat × Bool)}
def vP (A : Option Addr) (bs : List UInt8) (w : World) : Prop := (A = none → bs = []) ∧ ∀ b o, A = some ⟨b, o, none⟩ → ∀ j (hj : j < bs.length), w.cell? ⟨b, o + j, none⟩ = some (.int .u8 (bs[j].toNat : Int))
theorem AS {src dst e : TypeId} {x : Operand} {A : Option Addr} {c : Nat} {bs : List UInt8} (hs : P.underlying src = some (.slice e)) (he : P.underlying e = some (.int .u8)) (hd : P.underlying dst = some .string) (hA : ∀ ad, A = some ad → ∃ b o, ad = ⟨b, o, none⟩)
 (hx : ev ts x = some (.slice A bs.length c)) : Ev P ts (.convert src dst x) (.string ⟨bs.toArray⟩) (vP A bs) := by
 intro a w _ _ _ _ _ kn hφ
 cases A with
 | none =>
  obtain rfl := hφ.1 rfl
  have hr : (convert src dst (.slice none ([] : List UInt8).length c)).run P w = .ok (.string .empty) w := by
   rw [run_convert_bytes_string w src dst e none _ c hs he hd]
   simp [Conv.bytesToString]
  simp only [execOp, kn.eval hx, Sem.run_bind, hr, Result.andThen_ok, Sem.run_pure]
  rfl
 | some ad =>
  obtain ⟨b, o, rfl⟩ := hA ad rfl
  have hr := run_convert_bytes_back (P := P) w src dst e ⟨b, o, none⟩ c bs hs he hd fun j hj => by rw [add_plain]; exact hφ.2 b o rfl j hj
  simp only [execOp, kn.eval hx, Sem.run_bind, hr, Result.andThen_ok, Sem.run_pure]
theorem pE {t t' : TypeId} {x y : Operand} {a b : ByteArray} {r : Bool} (_ht : P.underlying t = some .string) (hx : ev ts x = some (.string a)) (hy : ev ts y = some (.string b)) (hr : (!(a.toList == b.toList)) = r) : Ev P ts (.binOp .neq t x y t') (.bool r) Any := by
 intro ac w _ _ _ _ _ kn _
 subst hr
 exact dp (kn.eval hx) (kn.eval hy) (by simp [eqGuard]) (by simp [binOp, Op.stringOp])
end
end Go.SL

namespace Go.Proofs.YtmeegfamopaljaaGreatDoor
open Go Go.RowKit Go.SL
variable {G : Env → Prop}
theorem tq : fx Tryz.prog 211 (.agg #[.int .i64 0, .string .empty, .string .empty]) 3 40 := by unfold fx; kernel_rfl
theorem qr (o : FK.DOp) (t : Nat) : Instr.fill (fun i => some (i * 3, 3)) (Array.map (fun x => ((.agg #[.int .i64 0, .string .empty, .string .empty] : Value)).cells[x % ((.agg #[.int .i64 0, .string .empty, .string .empty] : Value)).cells.size]!) (Array.range (1 * 3))) ((List.map (fun x => x.fst) [((0 : Nat), Operand.tmp t)]).zip [.agg (kf o).toArray]) = some (kf o).toArray := by
 have e1 : Array.range (1 * 3) = #[0, 1, 2] := rfl
 rw [e1]
 simp [Instr.fill, Value.cells]
theorem lN (l : List FK.DOp) (o : FK.DOp) : fm (l ++ [o]) = fm l ++ kf o := by
 unfold fm
 rw [List.flatMap_append]
 rfl
set_option maxRecDepth 10000 in
set_option maxHeartbeats 1000000 in
theorem wb {d : Nat} {σ : FK.Dsk} {o : FK.DOp} (hsz : FK.kD σ.now + o.data.size ≤ 9223372036854775807) (hp : σ.pend.length ≤ 1099511627776) : Does Tryz.prog G 334 [aL d, .agg (kf o).toArray].toArray [ak d σ] fun v m => v = eR (σ.tell o).2 ∧ m = [ak d (σ.tell o).1] := by
 have hsz' : FK.kD σ.writes.1.now + o.data.size ≤ 9223372036854775807 := by
  have : σ.writes.1.now = σ.now := by unfold FK.Dsk.writes; split; rfl; split <;> rfl
  rw [this]; exact hsz
 have hp' : σ.writes.1.pend.length ≤ 1099511627776 := by
  have : σ.writes.1.pend = σ.pend := by unfold FK.Dsk.writes; split; rfl; split <;> rfl
  rw [this]; exact hp
 have hcode : σ.writes.2 = 0 ∨ σ.writes.2 = 10 ∨ σ.writes.2 = 11 := by unfold FK.Dsk.writes; split; exact .inr (.inr rfl); split; exact .inr (.inl rfl); exact .inl rfl
 have htell : σ.tell o = if σ.writes.2 = 11 then ({ σ.writes.1 with pend := σ.writes.1.pend ++ [o] }, 11) else if σ.writes.2 ≠ 0 then σ.writes else if o.kind = 3 ∧ FK.dx σ.writes.1.now o.name = none then (σ.writes.1, 9) else ({ σ.writes.1 with now := FK.cP σ.writes.1.now o, pend := σ.writes.1.pend ++ [o] }, 0) := rfl
 clear hsz hp
 refine Does.body Tryz.func334 Z Z fun E fr hE => ?_
 refine ai (At.seq (At.region (L.op Z (cc Z Z fun b3 => (L.as Z Z (L.nil (At.then (At.seq (At.seq (At.region (L.mv Z Z (L.op Z (ah Z Z Z hE me (Ent.sel (.tail (.head))) ?_)))))))))))))
 rintro v m ⟨hv, rfl⟩
 refine ai ?_
 generalize σ.writes = ω at *
 obtain ⟨⟨dur, now, pend, left, full, down⟩, e⟩ := ω
 simp only at hsz' hp' hcode hv ⊢
 refine L.as Z Z (L.nil (At.then (At.seq ?_)))
 by_cases HE : e = 0
 ·
  subst HE
  subst hv
  refine At.region (L.mv Z Z (L.pure Z (cb Z Z) ?_))
  refine At.ex .head fun q => bn ?_
  refine At.ent (l' := ko d q ⟨dur, now, pend, left, full, down⟩ (blk b3 211 (kf o).toArray :: fr)) (Ent.refl _) ?_
  refine At.ex (.tail (.tail .head)) fun M => bn ?_
  refine At.ent (l' := HP.pure (Names q.P M now) :: bF bG q.mn (cC M) :: blk d 131 (eX q ⟨dur, now, pend, left, full, down⟩) :: aS q.md q.P dur :: cW q.P :: row 211 3 q.pv pend.length (fm pend) :: blk b3 211 (kf o).toArray :: fr) (Ent.refl _) ?_
  refine At.pure .head fun hN => (L.nil (At.then (aj Z (At.skip (At.then (At.seq (At.seq ?_)))))))
  by_cases HG : ∃ b s, FK.dx M o.name = some b ∧ FK.dx now o.name = some s ∧ (b, s) ∈ q.P
  ·
   obtain ⟨ob, os, hM, hF, hP⟩ := HG
   refine Dr.start Z (dP 0 Z Z (ag Z) (dP 1 Z Z (aq Z) (dP 2 Z Z (ab (off := 1) Z Z) (dL 3 Z Z (aa Z Z) (ae Z) (dP 4 Z Z (ab (off := 1) Z Z) (dL 5 Z Z (aa Z Z) (ae Z) ?_))))))
   refine dL 6 Z Z (iR (a := o.name) (v := aL ob) Z gM Z Z (by rw [iF, hM]; rfl)) (fv .head) ?_
   refine dP 7 Z Z (ag Z) (dP 8 Z Z (aU Z Z) (dP 9 Z Z (aU Z Z) (dP 10 Z Z (az Z) (dP 11 Z Z (az Z) (dE (At.then (At.seq (At.region (L.mv Z Z (L.pure Z (ck Z Z) (L.mv Z Z (L.off Z Z Z Z Z Z (L.off Z Z Z Z Z Z (L.off Z Z Z Z Z Z (L.pure Z (aM Z Z Z) (L.nil (At.then (aj Z (At.skip ?_)))))))))))))))))))
   refine At.then (At.seq ?_)
   refine At.ent (l' := aS q.mn q.P now :: cW q.P :: blk d 131 (eX q ⟨dur, now, pend, left, full, down⟩) :: aS q.md q.P dur :: row 211 3 q.pv pend.length (fm pend) :: blk b3 211 (kf o).toArray :: fr) ((aK .head (.tail (.tail .head))).trans ((Ent.cons (Ent.refl _)).trans (bQ hN))) ?_
   refine Dr.start Z (dP 0 Z Z (ag Z) (dP 1 Z Z (aq Z) (dP 2 Z Z (ab (off := 1) Z Z) (dL 3 Z Z (aa Z Z) (ae Z) (dL 4 Z Z (am (vs := kf o) Z Z Z Z) (av Z) ?_)))))
   refine dR 5 Z Z (ah Z Z Z hE (qu (P := q.P) (fs := now) (o := o) (fun _ w hw => by have := FK.qf hw; omega)) (Ent.refl _) ?_)
   rintro v m ⟨rfl, P', hP', rfl⟩
   refine aF ?_
   refine Dr.kept [false, false] (by kernel_rfl) Kept.nil ?_
   refine dE (At.then (At.seq ?_))
   refine At.ent (l' := aS q.md P' dur :: aS q.mn P' (FK.cP now o) :: cW P' :: blk d 131 (eX q ⟨dur, now, pend, left, full, down⟩) :: row 211 3 q.pv pend.length (fm pend) :: blk b3 211 (kf o).toArray :: fr) ((Ent.sel (.tail (.tail (.tail .head)))).trans (iA hP')) ?_
   refine Dr.start Z (dP 0 Z Z (ag Z) (dP 1 Z Z (ag Z) (dP 2 Z Z (aq Z) (dP 3 Z Z (ab (off := 2) Z Z) (dL 4 Z Z (aa Z Z) (ae Z) (dL 5 Z Z (am (vs := kf o) Z Z Z Z) (av Z) ?_))))))
   refine dR 6 Z Z (dT (m := 1) (z := .agg #[.int .i64 0, .string .empty, .string .empty]) (size := 3) (ps := [(0, .tmp 55)]) (vs := [.agg (kf o).toArray]) (cs := (kf o).toArray) Z Z Z Z (by omega) (by omega) Z (qr _ _) fun b56 => ?_)
   refine Dr.kept [false, true] (by kernel_rfl) (Kept.cons (ae Z) Kept.nil) ?_
   refine dR 7 rfl rfl (cj rfl rfl tq rfl (by omega) rfl rfl (HasVal.sel (v := q.pv)) (news := kf o) rfl (fun h => by cases h) (f6 (fun j u h => by simpa using h)) (by simp [Value.oneCell']) (by unfold maxLen; omega) (by omega) fun v57 hv57 => ?_)
   refine aJ (HasVal.sel (v := v57)) ?_
   rintro A57 c57 rfl - - - - -
   refine Dr.kept [false] (by kernel_rfl) Kept.nil ?_
   refine dP 8 Z Z (aq Z) (dP 9 Z Z (ab (off := 2) Z Z) ?_)
   refine dR 10 Z Z (bC Z Z Z Z Z (by first | decide | simp | (simp; omega)) ?_)
   refine ax d (eX ⟨q.md, q.mn, .slice A57 (pend.length + 1) c57, P'⟩ ⟨dur, FK.cP now o, pend ++ [o], left, full, down⟩) Z ?_
   refine At.ent (l' := ak d ⟨dur, FK.cP now o, pend ++ [o], left, full, down⟩ :: fr) ?_ ?_
   · refine Ent.trans ?_ (bJ ⟨q.md, q.mn, .slice A57 (pend.length + 1) c57, P'⟩ ⟨dur, FK.cP now o, pend ++ [o], left, full, down⟩)
     show Ent _ (_ :: _ :: _ :: _ :: row 211 3 _ (pend ++ [o]).length (fm (pend ++ [o])) :: fr)
     rw [lN, List.length_append]
     exact ao
   refine Dr.kept [] (by kernel_rfl) Kept.nil ?_
   refine dE (At.then (At.seq (At.region (L.as Z Z (L.nil (At.then (At.ret ?_)))))))
   have ht : σ.tell o = (⟨dur, FK.cP now o, pend ++ [o], left, full, down⟩, 0) := by rw [htell, if_neg (by simp), if_neg (by simp), if_neg (by rw [hF]; simp)]
   rw [ht]
   exact aA [_] rfl Z ⟨rfl, rfl⟩ (Ent.refl _)
  ·
   obtain ⟨hM, hF⟩ : FK.dx M o.name = none ∧ FK.dx now o.name = none := by rcases hN.get o.name with h | h; exact h; exact absurd h HG
   refine Dr.start Z (dP 0 Z Z (ag Z) (dP 1 Z Z (aq Z) (dP 2 Z Z (ab (off := 1) Z Z) (dL 3 Z Z (aa Z Z) (ae Z) (dP 4 Z Z (ab (off := 1) Z Z) (dL 5 Z Z (aa Z Z) (ae Z) ?_))))))
   refine dL 6 Z Z (j7 (m := cC M) (a := o.name) Z gM Z Z Z (by rw [iF, hM]; rfl)) (fv .head) ?_
   refine dP 7 Z Z (ag Z) (dP 8 Z Z (aU Z Z) (dP 9 Z Z (aU Z Z) (dP 10 Z Z (az Z) (dP 11 Z Z (az Z) (dE (At.then (At.seq (At.region (L.mv Z Z (L.pure Z (ck Z Z) (L.mv Z Z (lT Z Z Z (ab (off := 0) Z Z) (lA Z Z Z (aa Z Z) (ae Z) (lT Z Z Z (aV Z Z Z) (L.pure Z (aM Z Z Z) (L.nil (At.then ?_)))))))))))))))))
   refine aC Z (fun c42 => ?_) (fun c42 => ?_)
   ·
    refine At.seq (At.region (L.pure Z (cG Z Z Z) (L.as Z Z (L.nil (At.then (At.ret (aI ?_)))))))
    have ht : σ.tell o = (⟨dur, now, pend, left, full, down⟩, 9) := by rw [htell, if_neg (by simp), if_neg (by simp), if_pos ⟨c42, hF⟩]
    rw [ht]
    refine aA [ak d ⟨dur, now, pend, left, full, down⟩] rfl Z ⟨rfl, rfl⟩ ?_
    refine Ent.trans ?_ (bJ q ⟨dur, now, pend, left, full, down⟩)
    refine Ent.trans (bQ hN) ?_
    show Ent _ (_ :: aS q.md q.P dur :: aS q.mn q.P now :: cW q.P :: _ :: fr)
    exact ao
   ·
    refine At.skip (At.then (At.seq ?_))
    refine At.ent (l' := aS q.mn q.P now :: cW q.P :: blk d 131 (eX q ⟨dur, now, pend, left, full, down⟩) :: aS q.md q.P dur :: row 211 3 q.pv pend.length (fm pend) :: blk b3 211 (kf o).toArray :: fr) ((aK .head (.tail (.tail .head))).trans ((Ent.cons (Ent.refl _)).trans (bQ hN))) ?_
    refine Dr.start Z (dP 0 Z Z (ag Z) (dP 1 Z Z (aq Z) (dP 2 Z Z (ab (off := 1) Z Z) (dL 3 Z Z (aa Z Z) (ae Z) (dL 4 Z Z (am (vs := kf o) Z Z Z Z) (av Z) ?_)))))
    refine dR 5 Z Z (ah Z Z Z hE (qu (P := q.P) (fs := now) (o := o) (fun _ w hw => by have := FK.qf hw; omega)) (Ent.refl _) ?_)
    rintro v m ⟨rfl, P', hP', rfl⟩
    refine aF ?_
    refine Dr.kept [false, false] (by kernel_rfl) Kept.nil ?_
    refine dE (At.then (At.seq ?_))
    refine At.ent (l' := aS q.md P' dur :: aS q.mn P' (FK.cP now o) :: cW P' :: blk d 131 (eX q ⟨dur, now, pend, left, full, down⟩) :: row 211 3 q.pv pend.length (fm pend) :: blk b3 211 (kf o).toArray :: fr) ((Ent.sel (.tail (.tail (.tail .head)))).trans (iA hP')) ?_
    refine Dr.start Z (dP 0 Z Z (ag Z) (dP 1 Z Z (ag Z) (dP 2 Z Z (aq Z) (dP 3 Z Z (ab (off := 2) Z Z) (dL 4 Z Z (aa Z Z) (ae Z) (dL 5 Z Z (am (vs := kf o) Z Z Z Z) (av Z) ?_))))))
    refine dR 6 Z Z (dT (m := 1) (z := .agg #[.int .i64 0, .string .empty, .string .empty]) (size := 3) (ps := [(0, .tmp 55)]) (vs := [.agg (kf o).toArray]) (cs := (kf o).toArray) Z Z Z Z (by omega) (by omega) Z (qr _ _) fun b56 => ?_)
    refine Dr.kept [false, true] (by kernel_rfl) (Kept.cons (ae Z) Kept.nil) ?_
    refine dR 7 rfl rfl (cj rfl rfl tq rfl (by omega) rfl rfl (HasVal.sel (v := q.pv)) (news := kf o) rfl (fun h => by cases h) (f6 (fun j u h => by simpa using h)) (by simp [Value.oneCell']) (by unfold maxLen; omega) (by omega) fun v57 hv57 => ?_)
    refine aJ (HasVal.sel (v := v57)) ?_
    rintro A57 c57 rfl - - - - -
    refine Dr.kept [false] (by kernel_rfl) Kept.nil ?_
    refine dP 8 Z Z (aq Z) (dP 9 Z Z (ab (off := 2) Z Z) ?_)
    refine dR 10 Z Z (bC Z Z Z Z Z (by first | decide | simp | (simp; omega)) ?_)
    refine ax d (eX ⟨q.md, q.mn, .slice A57 (pend.length + 1) c57, P'⟩ ⟨dur, FK.cP now o, pend ++ [o], left, full, down⟩) Z ?_
    refine At.ent (l' := ak d ⟨dur, FK.cP now o, pend ++ [o], left, full, down⟩ :: fr) ?_ ?_
    · refine Ent.trans ?_ (bJ ⟨q.md, q.mn, .slice A57 (pend.length + 1) c57, P'⟩ ⟨dur, FK.cP now o, pend ++ [o], left, full, down⟩)
      show Ent _ (_ :: _ :: _ :: _ :: row 211 3 _ (pend ++ [o]).length (fm (pend ++ [o])) :: fr)
      rw [lN, List.length_append]
      exact ao
    refine Dr.kept [] (by kernel_rfl) Kept.nil ?_
    refine dE (At.then (At.seq (At.region (L.as Z Z (L.nil (At.then (At.ret ?_)))))))
    have ht : σ.tell o = (⟨dur, FK.cP now o, pend ++ [o], left, full, down⟩, 0) := by rw [htell, if_neg (by simp), if_neg (by simp), if_neg (fun h => c42 h.1)]
    rw [ht]
    exact aA [_] rfl Z ⟨rfl, rfl⟩ (Ent.refl _)
 ·
  replace hv := hv.trans (if_neg HE)
  subst hv
  refine At.region (L.mv Z Z (L.pure Z (fg Z Z) (L.nil (At.then (aR Z (At.seq (At.seq (At.region (L.mv Z Z (L.pure Z (cG Z Z Z) (L.pure Z (nD Z Z Z Z Z Z Z) (L.nil (At.then ?_)))))))))))))
  refine eD Z (fun c14 => ?_) (fun c14 => ?_)
  ·
   obtain rfl : e = 11 := by simpa using c14
   refine At.ex .head fun q => bn ?_
   refine At.ent (l' := ko d q ⟨dur, now, pend, left, full, down⟩ (blk b3 211 (kf o).toArray :: fr)) (Ent.refl _) ?_
   refine Dr.start Z (dP 0 Z Z (ag Z) (dP 1 Z Z (ag Z) (dP 2 Z Z (aq Z) (dP 3 Z Z (ab (off := 2) Z Z) (dL 4 Z Z (aa Z Z) (ae Z) (dL 5 Z Z (am (vs := kf o) Z Z Z Z) (av Z) ?_))))))
   refine dR 6 Z Z (dT (m := 1) (z := .agg #[.int .i64 0, .string .empty, .string .empty]) (size := 3) (ps := [(0, .tmp 20)]) (vs := [.agg (kf o).toArray]) (cs := (kf o).toArray) Z Z Z Z (by omega) (by omega) Z (qr _ _) fun b21 => ?_)
   refine Dr.kept [false, true] (by kernel_rfl) (Kept.cons (ae Z) Kept.nil) ?_
   refine dR 7 rfl rfl (cj rfl rfl tq rfl (by omega) rfl rfl (HasVal.sel (v := q.pv)) (news := kf o) rfl (fun h => by cases h) (f6 (fun j u h => by simpa using h)) (by simp [Value.oneCell']) (by unfold maxLen; show pend.length + 1 ≤ _; omega) (by show (pend.length + 1) * 40 ≤ _; omega) fun v22 hv22 => ?_)
   refine aJ (HasVal.sel (v := v22)) ?_
   rintro A22 c22 rfl - - - - -
   refine Dr.kept [false] (by kernel_rfl) Kept.nil ?_
   refine dP 8 Z Z (aq Z) (dP 9 Z Z (ab (off := 2) Z Z) ?_)
   refine dR 10 Z Z (bC Z Z Z Z Z (by first | decide | simp | (simp; omega)) ?_)
   refine ax d (eX ⟨q.md, q.mn, .slice A22 (pend.length + 1) c22, q.P⟩ ⟨dur, now, pend ++ [o], left, full, down⟩) Z ?_
   refine At.ent (l' := ak d ⟨dur, now, pend ++ [o], left, full, down⟩ :: fr) ?_ ?_
   · refine Ent.trans ?_ (bJ ⟨q.md, q.mn, .slice A22 (pend.length + 1) c22, q.P⟩ ⟨dur, now, pend ++ [o], left, full, down⟩)
     show Ent _ (_ :: _ :: _ :: _ :: row 211 3 _ (pend ++ [o]).length (fm (pend ++ [o])) :: fr)
     rw [lN, List.length_append]
     exact ao
   refine Dr.kept [] (by kernel_rfl) Kept.nil ?_
   refine dE (At.then (At.seq (At.region (L.mv Z Z (L.as Z Z (L.nil (At.then (At.ret (aI ?_)))))))))
   have ht : σ.tell o = (⟨dur, now, pend ++ [o], left, full, down⟩, 11) := by rw [htell, if_pos rfl]
   rw [ht]
   exact aA [_] rfl Z ⟨rfl, rfl⟩ (Ent.refl _)
  ·
   have hne : e ≠ 11 := fun h => by rw [h] at c14; exact absurd c14 (by decide)
   refine At.skip (At.then (At.seq (At.region (L.mv Z Z (L.as Z Z (L.nil (At.then (At.ret (aI ?_)))))))))
   have ht : σ.tell o = (⟨dur, now, pend, left, full, down⟩, e) := by rw [htell, if_neg hne, if_pos HE]
   rw [ht]
   exact aA [_] rfl Z ⟨(if_neg HE).symm, rfl⟩ (Ent.cons Ent.drop)
def cV (bs : List UInt8) : ByteArray := ⟨bs.toArray⟩
theorem jx (bs : List UInt8) : (cV bs).size = bs.length := by
 unfold cV
 show bs.toArray.size = _
 simp
theorem Bg {E : Env} {p : HP} {A : Option Addr} {bs : List UInt8} {l r : List HP} (h : Reads p A bs) (hA : A = none → bs = []) (s : Sel p l r) : ∀ w, Holds E w l → vP A bs w := fun w hw => ⟨hA, fun _b _o hAb _j hj => h.at s hAb (List.getElem?_eq_getElem hj) w hw⟩
end Go.Proofs.YtmeegfamopaljaaGreatDoor

namespace Go.Proofs.YtmeegfamopaljaaGreatDoor
open Go Go.RowKit Go.SL
variable {G : Env → Prop}
set_option maxRecDepth 10000 in
theorem xy {d : Nat} {σ : FK.Dsk} {kind : Int} {name : ByteArray} {u : Value} {bs : List UInt8} (hsz : FK.kD σ.now + bs.length ≤ 9223372036854775807) (hp : σ.pend.length ≤ 1099511627776) (hl : bs.length ≤ 1099511627776) : Does Tryz.prog G 332 [aL d, .int .i64 kind, bG name, u].toArray [ak d σ, bM u bs] fun v m => v = eR (σ.tell ⟨kind, name, cV bs⟩).2 ∧ m = [ak d (σ.tell ⟨kind, name, cV bs⟩).1] := by
 refine Does.body Tryz.func332 Z Z fun E fr hE => ?_
 refine aF (aJ (HasVal.sel (v := u)) ?_)
 rintro A c rfl f1 f2 f3 f4 -
 have hform : bs ≠ [] → ∃ g, A = some ⟨g, 0, none⟩ := fun hne => by
  have hpos := List.length_pos_iff.2 hne
  cases A with
  | none => have := (f1 rfl).1; omega
  | some ad => obtain ⟨g, rfl⟩ := f2 ad rfl; exact ⟨g, rfl⟩
 have hA : A = none → bs = [] := fun h => by
  have := (f1 h).1
  exact List.eq_nil_of_length_eq_zero (by omega)
 refine At.seq (At.region (L.as Z Z (L.nil (At.then (At.seq (At.region (L.mv Z Z (L.mv Z Z (L.mv Z Z (L.mv Z Z ?_))))))))))
 refine L.val rfl (AS (bs := bs) rfl rfl rfl (fun ad h => by obtain ⟨g, rfl⟩ := f2 ad h; exact ⟨g, 0, rfl⟩) rfl) (Bg (Reads.row (c := c) hform) hA (.tail .head)) ?_
 refine L.pure Z (bg (cs := (kf ⟨kind, name, cV bs⟩).toArray) Z Z Z Z Z) ?_
 refine L.op Z (ah Z Z Z hE (wb (o := ⟨kind, name, cV bs⟩) (by rw [jx]; exact hsz) hp) (Ent.refl _) ?_)
 rintro v m ⟨hv, rfl⟩
 refine ai (L.as Z Z (L.nil (At.then (At.seq (At.seq (At.region (L.mv Z Z (L.pure Z (aP Z Z) (L.mv Z Z (L.nil (At.then (At.block ?_))))))))))))
 refine aT (X := Nat × List Value) (fun x => [(20, .int .i64 x.1), (19, .int .i64 bs.length), (3, .slice A bs.length c), (9, v)]) (fun x => row 5 1 (.slice A bs.length c) bs.length x.2 :: ak d (σ.tell ⟨kind, name, cV bs⟩).1 :: fr) (fun x => x.1 ≤ bs.length) (fun x => bs.length - x.1) (0, bO bs) (Nat.zero_le _) ⟨rfl, rfl, rfl, rfl, trivial⟩ (Ent.sel (.tail .head)) ?_
 rintro ⟨k, ys⟩ hk
 simp only at hk ⊢
 refine At.seq (At.region (L.pure Z (bf Z Z Z) (L.nil (At.then (At.seq ?_)))))
 refine aC Z (fun c21 => ?_) (fun c21 => ?_)
 ·
  have hlt : k < bs.length := by omega
  obtain ⟨g, rfl⟩ := hform (by rintro rfl; simp at hlt)
  refine At.skip (At.then (At.seq (At.block (At.seq (At.region (L.mv Z Z (L.as Z Z (L.nil (At.then (At.region (L.mv Z Z (L.mv Z Z (L.pure Z (bD (z := 1) Z Z Z Z hlt) ?_)))))))))))))
  refine L.op Z (fd .head Z Z Z Z (by omega) ?_)
  refine L.nil (al (At.then (At.region ?_)))
  refine L.pure Z (aO (r := ((k + 1 : Nat) : Int)) Z Z (by rw [cT (by omega)]; omega)) ?_
  refine L.mv Z Z (L.nil ?_)
  exact At.round (k + 1, _) (by simp only; omega) (by simp only; omega) ⟨rfl, rfl, rfl, rfl, trivial⟩ (Ent.refl _)
 ·
  refine At.exit (au (ar (an (At.then (At.seq (At.region (L.mv Z Z (L.as Z Z (L.nil (At.then (At.ret ?_)))))))))))
  exact aA [_] rfl Z ⟨hv, rfl⟩ Ent.drop
set_option maxRecDepth 10000 in
theorem s8 {d : Nat} {σ : FK.Dsk} {name : ByteArray} {u : Value} {bs : List UInt8} (hsz : FK.kD σ.now + bs.length ≤ 9223372036854775807) (hp : σ.pend.length ≤ 1099511627776) (hl : bs.length ≤ 1099511627776) : Does Tryz.prog G 326 [aL d, bG name, u].toArray [ak d σ, bM u bs] fun v m => v = eR (σ.tell ⟨2, name, cV bs⟩).2 ∧ m = [ak d (σ.tell ⟨2, name, cV bs⟩).1] := by
 refine Does.body Tryz.func326 Z Z fun E fr hE => ?_
 refine aF (At.seq (At.region (L.as Z Z (L.nil (At.then (At.seq (At.region (L.mv Z Z (L.mv Z Z (L.mv Z Z (L.op Z (ah Z Z Z hE (xy hsz hp hl) (Ent.refl _) ?_))))))))))))
 rintro v m ⟨hv, rfl⟩
 refine ai (L.as Z Z (L.nil (At.then (At.ret ?_))))
 exact aA [_] rfl Z ⟨hv, rfl⟩ (Ent.refl _)
theorem Az {l : List FK.DOp} {i : Nat} {o : FK.DOp} (h : l[i]? = some o) (j : Nat) (u : Value) (hu : (kf o)[j]? = some u) : (fm l)[0 + i * 3 + j]? = some u := by
 rw [Nat.zero_add]
 exact gT (k := 3) (fun _ => rfl) j h hu
theorem wG {l : List FK.DOp} {k : Nat} {o : FK.DOp} (h : l[k]? = some o) : FK.gJ (l.take k) + o.data.size ≤ FK.gJ l := by
 have h1 : l.take (k + 1) = l.take k ++ [o] := by rw [List.take_add_one, h]; rfl
 have h2 : l = l.take (k + 1) ++ l.drop (k + 1) := (List.take_append_drop _ _).symm
 have h3 : ∀ a b : List FK.DOp, FK.gJ (a ++ b) = FK.gJ a + FK.gJ b := fun a b => by simp [FK.gJ]
 have h4 : FK.gJ [o] = o.data.size := by simp [FK.gJ]
 have h5 : FK.gJ l = FK.gJ (l.take k) + o.data.size + FK.gJ (l.drop (k + 1)) := by
  conv => lhs; rw [h2, h1]
  rw [h3, h3, h4]
 omega
set_option maxRecDepth 10000 in
set_option maxHeartbeats 1000000 in
theorem iL {d : Nat} {σ : FK.Dsk} (hsz : FK.kD σ.dur + FK.gJ σ.pend ≤ 9223372036854775807) (hp : σ.pend.length ≤ 1099511627776) : Does Tryz.prog G 330 [aL d].toArray [ak d σ] fun v m => v = eR σ.sync.2 ∧ m = [ak d σ.sync.1] := by
 have hsz' : FK.kD σ.writes.1.dur + FK.gJ σ.writes.1.pend ≤ 9223372036854775807 := by
  have : σ.writes.1.dur = σ.dur ∧ σ.writes.1.pend = σ.pend := by unfold FK.Dsk.writes; split; exact ⟨rfl, rfl⟩; split <;> exact ⟨rfl, rfl⟩
  rw [this.1, this.2]; exact hsz
 have hp' : σ.writes.1.pend.length ≤ 1099511627776 := by
  have : σ.writes.1.pend = σ.pend := by unfold FK.Dsk.writes; split; rfl; split <;> rfl
  rw [this]; exact hp
 have hsync : σ.sync = if σ.writes.2 ≠ 0 then σ.writes else ({ σ.writes.1 with dur := σ.writes.1.pend.foldl FK.cP σ.writes.1.dur, pend := [] }, 0) := rfl
 clear hsz hp
 refine Does.body Tryz.func330 Z Z fun E fr hE => ?_
 refine ai (At.seq (At.region (L.as Z Z (L.nil (At.then (At.seq (At.seq (At.region (L.mv Z Z (L.op Z (ah Z Z Z hE me (Ent.refl _) ?_)))))))))))
 rintro v m ⟨hv, rfl⟩
 refine ai ?_
 generalize σ.writes = ω at *
 obtain ⟨⟨dur, now, pend, left, full, down⟩, e⟩ := ω
 simp only at hsz' hp' hv ⊢
 refine L.as Z Z (L.nil (At.then (At.seq ?_)))
 by_cases HE : e = 0
 ·
  subst HE
  subst hv
  refine At.region (L.mv Z Z (L.pure Z (cb Z Z) (L.nil (At.then (aj Z (At.skip (At.then (At.seq (At.seq ?_)))))))))
  refine At.ex .head fun q => bn ?_
  obtain ⟨md, mn, pv, P⟩ := q
  refine At.ent (l' := ko d ⟨md, mn, pv, P⟩ ⟨dur, now, pend, left, full, down⟩ fr) (Ent.refl _) ?_
  refine aJ (HasVal.sel (v := pv)) ?_
  rintro A c rfl f1 f2 f3 f4 -
  refine At.ent (l' := blk d 131 (eX ⟨md, mn, .slice A pend.length c, P⟩ ⟨dur, now, pend, left, full, down⟩) :: aS md P dur :: aS mn P now :: cW P :: row 211 3 (.slice A pend.length c) pend.length (fm pend) :: fr) (Ent.refl _) ?_
  refine At.region (L.mv Z Z (aN Z Z (aE 2 Z Z Z (aX Z Z Z Z (L.pure Z (aP Z Z) (L.mv Z Z (L.nil (At.then (At.block ?_)))))))))
  refine aT (X := Nat × List (Nat × ByteArray)) (fun x => [(16, .int .i64 x.1), (15, .int .i64 pend.length), (14, .slice A pend.length c), (0, aL d)]) (fun x => aS md x.2 ((pend.take x.1).foldl FK.cP dur) :: aS mn x.2 now :: cW x.2 :: row 211 3 (.slice A pend.length c) pend.length (fm pend) :: blk d 131 (eX ⟨md, mn, .slice A pend.length c, P⟩ ⟨dur, now, pend, left, full, down⟩) :: fr) (fun x => x.1 ≤ pend.length) (fun x => pend.length - x.1) (0, P) (Nat.zero_le _) ⟨rfl, rfl, rfl, rfl, trivial⟩ (by show Ent _ (aS md P dur :: aS mn P now :: cW P :: _ :: _ :: fr); exact ao) ?_
  rintro ⟨k, P'⟩ hk
  replace hk : k ≤ pend.length := hk
  refine At.ent (l' := aS md P' ((pend.take k).foldl FK.cP dur) :: aS mn P' now :: cW P' :: row 211 3 (.slice A pend.length c) pend.length (fm pend) :: blk d 131 (eX ⟨md, mn, .slice A pend.length c, P⟩ ⟨dur, now, pend, left, full, down⟩) :: fr) (Ent.refl _) ?_
  refine At.seq (At.region (L.pure Z (bf Z Z Z) (L.nil (At.then (At.seq ?_)))))
  refine aC Z (fun c17 => ?_) (fun c17 => ?_)
  ·
   have hlt : k < pend.length := by have : (k : Int) < (pend.length : Int) := c17; omega
   obtain ⟨o, ho⟩ : ∃ o, pend[k]? = some o := ⟨pend[k], by simp [hlt]⟩
   obtain ⟨g, rfl⟩ : ∃ g, A = some ⟨g, 0, none⟩ := by
    cases A with
    | none => have h0 : pend.length = 0 := (f1 rfl).1; omega
    | some ad => obtain ⟨g, rfl⟩ := f2 ad rfl; exact ⟨g, rfl⟩
   have hvol := wG ho
   have hvol2 := FK.rj (pend.take k) dur
   have htk : (pend.take (k + 1)).foldl FK.cP dur = FK.cP ((pend.take k).foldl FK.cP dur) o := by rw [List.take_add_one, ho, List.foldl_append]; rfl
   refine At.skip (At.then (At.seq (At.block (At.seq (At.region (L.pure Z (bD (z := 3) Z Z Z Z hlt) ?_))))))
   refine L.val Z (am (vs := kf o) Z Z Z Z) (uP (.tail (.tail (.tail .head))) fun j u hj => Az ho j u hj) ?_
   refine L.op Z (aH (z := .agg #[.int .i64 0, .string .empty, .string .empty]) Z Z fun b5 => ?_)
   refine L.op Z (aG (vs := kf o) Z (m := 3) Z Z Z Z (by simp [Value.oneCell']) (by show 0 + 3 ≤ 3; omega) ?_)
   refine ax b5 (kf o).toArray Z (L.nil (At.then (Dr.start Z (dP 0 Z Z (ag Z) (dP 1 Z Z (aq Z) (dP 2 Z Z (ab (off := 0) Z Z) (dL 3 Z Z (aa Z Z) (ae Z) (dL 4 Z Z (am (vs := kf o) Z Z Z Z) (av Z) ?_))))))))
   refine dR 5 Z Z (ah Z Z Z hE (qu (mb := md) (P := P') (fs := (pend.take k).foldl FK.cP dur) (o := o) (fun _ w hw => by have := FK.qf hw; omega)) (aK (.tail .head) (.tail (.tail .head))) ?_)
   rintro v m ⟨rfl, P2, hP2, rfl⟩
   refine aF ?_
   refine Dr.kept [false, false] (by kernel_rfl) Kept.nil ?_
   refine dE (al (At.then (At.region ?_)))
   refine L.pure Z (aO (r := ((k + 1 : Nat) : Int)) Z Z (by rw [cT (by omega)]; omega)) ?_
   refine L.mv Z Z (L.nil ?_)
   exact At.round (k + 1, P2) hlt (by show pend.length - (k + 1) < pend.length - k; omega) ⟨rfl, rfl, rfl, rfl, trivial⟩ (by rw [htk]; exact ((Ent.sel (.tail (.tail (.tail .head)))).trans (iA hP2)).trans (by show Ent (aS mn P2 now :: _ :: _ :: _ :: _ :: _ :: fr) _; exact ao))
  ·
   have hke : k = pend.length := by have : ¬ (k : Int) < (pend.length : Int) := c17; omega
   rw [hke, List.take_length]
   refine At.exit (au (ar (an (At.then (At.seq (At.region (L.mv Z Z (aN Z Z (aE 2 Z Z Z ?_)))))))))
   refine L.st Z Z Z Z (by first | decide | simp | (simp; omega)) ?_
   refine L.nil (At.then (At.seq (At.region (L.as Z Z (L.nil (At.then (At.ret ?_)))))))
   have ht : σ.sync = (⟨pend.foldl FK.cP dur, now, [], left, full, down⟩, 0) := by rw [hsync, if_neg (by simp)]
   rw [ht]
   refine ax d (eX ⟨md, mn, .slice none 0 0, P'⟩ ⟨pend.foldl FK.cP dur, now, [], left, full, down⟩) Z ?_
   refine aA [ak d ⟨pend.foldl FK.cP dur, now, [], left, full, down⟩] rfl Z ⟨rfl, rfl⟩ ?_
   refine Ent.trans ?_ (bJ ⟨md, mn, .slice none 0 0, P'⟩ ⟨pend.foldl FK.cP dur, now, [], left, full, down⟩)
   refine (Ent.row0 (e := 211) (size := 3)).trans ?_
   show Ent _ (blk d 131 (eX ⟨md, mn, .slice none 0 0, P'⟩ ⟨pend.foldl FK.cP dur, now, [], left, full, down⟩) :: aS md P' (pend.foldl FK.cP dur) :: aS mn P' now :: cW P' :: row 211 3 (.slice none 0 0) 0 [] :: fr)
   exact ao
 ·
  replace hv := hv.trans (if_neg HE)
  subst hv
  refine At.region (L.mv Z Z (L.pure Z (fg Z Z) (L.nil (At.then (aR Z (At.seq (At.region (L.mv Z Z (L.as Z Z (L.nil (At.then (At.ret (aI ?_)))))))))))))
  have ht : σ.sync = (⟨dur, now, pend, left, full, down⟩, e) := by rw [hsync, if_pos HE]
  rw [ht]
  exact aA [_] rfl Z ⟨(if_neg HE).symm, rfl⟩ (Ent.refl _)
end Go.Proofs.YtmeegfamopaljaaGreatDoor
