/- Maps whose keys are integers, as lists in the order in which the keys came. -/
import Derived.Test.YtmeegfamopaljaaGreatDoorHnD
import Derived.MapKept
import Derived.Test.YtmeegfamopaljaaGreatDoorHnC
import Derived.Laws.StructEq
import Derived.Maps.RangeRun
import Derived.LaidEql
import Derived.Test.YtmeegfamopaljaaGreatDoorHnA
import Derived.Laws.Externs
import Derived.Lib.LaidTab
import Derived.Lib.ItoaNum
namespace Go.SL
open Go Go.RowKit
theorem fq {α β : Type} (f : α → β) : ∀ (l : List α) (j : Nat), (l.eraseIdx j).map f = (l.map f).eraseIdx j
 | [], _ => rfl
 | _ :: _, 0 => rfl
 | _ :: l, j + 1 => by simp [fq f l j]
theorem mM {k : IntKind} {x : Int} : ∀ {es : List MapEntry} {m : List (Int × Value)} {i : Nat}, es.map (fun e => (e.key, e.val)) = m.map (fun p => (Value.int k p.1, p.2)) →
 Instr.findNow (.int k) (.int k x) es i = some ((m.findIdx? (·.1 == x)).map fun j => (i + j, ((m[j]?).map (·.2)).getD undef))
 | [], [], _, _ => rfl
 | [], _ :: _, _, h => by cases h
 | _ :: _, [], _, h => by cases h
 | e :: es, p :: m, i, h => by
  simp only [List.map_cons, List.cons.injEq, Prod.mk.injEq] at h
  obtain ⟨⟨h1, h2⟩, h3⟩ := h
  have ih := mM (k := k) (x := x) (i := i + 1) h3
  simp only [Instr.findNow, h1, Instr.sameNow, if_true, List.findIdx?_cons]
  by_cases hx : p.1 = x
  · subst hx
    simp [h2]
  · have h4 : (x == p.1) = false := by simp; exact fun h => hx h.symm
    have h5 : (p.1 == x) = false := by simp [hx]
    simp only [h4, h5, Bool.false_eq_true, if_false]
    rw [ih]
    cases m.findIdx? (·.1 == x) with
    | none => rfl
    | some j => simp; omega
section
variable {P : Program} {E : Env} {n : Nat} {D : List Deferred} {ts : List (Nat × Value)} {l : List HP} {ops : Array Oper} {Q : Exit → Act → World → Prop} {i : Nat} {ty : TypeId} {pos : String} {af : Array Edge} {g : Option (Nat × Bool)}
theorem su {t : TypeId} {k : IntKind} (ht : P.underlying t = some (.int k)) {es : List MapEntry} {m : List (Int × Value)} (h : es.map (fun e => (e.key, e.val)) = m.map (fun p => (Value.int k p.1, p.2))) (x : Int) (w : World) :
 (Instr.findKey t (.int k x) es).run P w = .ok ((m.findIdx? (·.1 == x)).map fun j => (j, ((m[j]?).map (·.2)).getD undef)) w := by
 have := mM (x := x) (i := 0) h
 simp only [Nat.zero_add] at this
 exact MapKept.run_findKey ht this
end
open Go Go.RowKit
section
variable {P : Program} {ts : List (Nat × Value)}
def nz (P : Program) (xs ys : Array Value) : List Field → Option Bool
 | [] => some true
 | f :: fs => bif f.name != "_" then
  match P.underlying f.type, xs[f.offset]?, ys[f.offset]? with
  | some (.int _), some (.int k a), some (.int k' b) => bif k == k' then (nz P xs ys fs).map ((a == b) && ·) else none
  | _, _, _ => none
  else none
theorem oo {d : Nat} {w : World} {xs ys : Array Value} : ∀ {fs : List Field} {r : Bool}, nz P xs ys fs = some r → (Op.eqFields (d + 1) xs ys fs).run P w = .ok r w
 | [], r, h => by simp [nz] at h; subst h; simp [Op.eqFields]
 | f :: fs, r, h => by
  simp only [nz] at h
  cases hn : f.name != "_" with
  | false => rw [hn] at h; simp at h
  | true =>
   rw [hn, cond_true] at h
   have hn' : f.name ≠ "_" := by simpa using hn
   split at h
   · rename_i k0 k a k' b hu hx hy
     cases hk : k == k' with
     | false => rw [hk] at h; simp at h
     | true =>
      rw [hk, cond_true, Option.map_eq_some_iff] at h
      obtain ⟨r', hr', e⟩ := h
      have ih := oo (d := d) (w := w) hr'
      have hk' : k = k' := by simpa using hk
      subst hk'
      have hp : ∀ (cs : Array Value) (v : Value), cs[f.offset]? = some v → (part f.type cs f.offset).run P w = .ok v w := fun cs v hv => by
       simp [part, isAgg, run_underlying hu, hv]
      have he : (Op.equalIn (d + 1) f.type (.int k a) (.int k b)).run P w = .ok (a == b) w := run_equalIn_int w d f.type k k0 a b hu
      simp only [Op.eqFields, if_pos hn', Sem.run_bind, hp xs _ hx, hp ys _ hy, he, Result.andThen_ok]
      cases hab : a == b with
      | true => rw [hab] at e; simp at e; subst e; simpa using ih
      | false => rw [hab] at e; simp at e; subst e; simp
   · cases h
end
open Go Go.RowKit
structure KeyK (P : Program) (kt : TypeId) (K : Type) [BEq K] (enc : K → Value) : Prop where
 check : ∀ (e : Bool) (k : K) (w : World), (Instr.checkKey e 10000 kt (enc k)).run P w = .ok () w
 find : ∀ (w : World) (es : List MapEntry) (m : List (K × Value)) (k : K), es.map (fun e => (e.key, e.val)) = m.map (fun p => (enc p.1, p.2)) →
  (Instr.findKey kt (enc k) es).run P w = .ok ((m.findIdx? (·.1 == k)).map fun j => (j, ((m[j]?).map (·.2)).getD undef)) w
 bits : ∀ k k' : K, (k == k') = true → Instr.sameBits 10000 (enc k) (enc k') = true
 eq : ∀ k k' : K, (k == k') = true → k = k'
section
variable {P : Program} {w : World}
theorem s6 (m : List (Nat × Value)) (x : Nat) : ((m.map fun p => ((p.1 : Int), p.2)).findIdx? (·.1 == (x : Int))) = m.findIdx? (·.1 == x) := by
 induction m with
 | nil => rfl
 | cons p m ih =>
  simp only [List.map_cons, List.findIdx?_cons, ih]
  by_cases h : p.1 = x
  · simp [h]
  · have h1 : (p.1 == x) = false := by simp [h]
    have h2 : ((p.1 : Int) == (x : Int)) = false := by simp; omega
    rw [h1, h2]
theorem Co {kt : TypeId} {k : IntKind} (ht : P.underlying kt = some (.int k)) : KeyK P kt Nat (fun x => .int k (x : Int)) where
 check := fun e x w => MapKept.run_checkKey (k := .int k x) ht (by simp [MapKept.IsKey]) e 9999
 find := fun w es m x h => by
  have h' : es.map (fun e => (e.key, e.val)) = (m.map fun p => ((p.1 : Int), p.2)).map (fun p => (Value.int k p.1, p.2)) := by rw [h]; simp
  rw [su ht h' x w, s6]
  cases m.findIdx? (·.1 == x) with
  | none => rfl
  | some j => simp [Function.comp_def]
 bits := fun a b h => by
  have : a = b := by simpa using h
  subst this
  simp [Instr.sameBits]
 eq := fun a b h => by simpa using h
theorem mL {x : ByteArray} : ∀ {es : List MapEntry} {m : List (ByteArray × Value)} {i : Nat}, es.map (fun e => (e.key, e.val)) = m.map (fun p => (Value.string p.1, p.2)) →
 Instr.findNow .string (.string x) es i = some ((m.findIdx? (·.1 == x)).map fun j => (i + j, ((m[j]?).map (·.2)).getD undef))
 | [], [], _, _ => rfl
 | [], _ :: _, _, h => by cases h
 | _ :: _, [], _, h => by cases h
 | e :: es, p :: m, i, h => by
  simp only [List.map_cons, List.cons.injEq, Prod.mk.injEq] at h
  obtain ⟨⟨h1, h2⟩, h3⟩ := h
  have ih := mL (x := x) (i := i + 1) h3
  simp only [Instr.findNow, h1, Instr.sameNow, List.findIdx?_cons]
  by_cases hx : p.1 = x
  · subst hx
    have e1 : (p.1 == p.1) = true := (MapKept.bytes_beq _ _).2 rfl
    rw [e1]
    simp [h2]
  · have h4 : (x == p.1) = false := by
     cases hb : x == p.1 with
     | false => rfl
     | true => exact absurd ((MapKept.bytes_beq _ _).1 hb).symm hx
    have h5 : (p.1 == x) = false := by
     cases hb : p.1 == x with
     | false => rfl
     | true => exact absurd ((MapKept.bytes_beq _ _).1 hb) hx
    simp only [h4, h5, Bool.false_eq_true, if_false]
    rw [ih]
    cases m.findIdx? (·.1 == x) with
    | none => rfl
    | some j => simp; omega
theorem Cm {kt : TypeId} (ht : P.underlying kt = some .string) : KeyK P kt ByteArray (fun x => .string x) where
 check := fun e x w => MapKept.run_checkKey (k := .string x) ht (by simp [MapKept.IsKey]) e 9999
 find := fun w es m x h => by
  have := mL (x := x) (i := 0) h
  simp only [Nat.zero_add] at this
  exact MapKept.run_findKey ht this
 bits := fun a b h => by simpa [Instr.sameBits] using h
 eq := fun a b h => (MapKept.bytes_beq _ _).1 h
def kh (P : Program) (cs : Array Value) : List Field → Bool
 | [] => true
 | f :: fs => (match P.underlying f.type, cs[f.offset]? with
  | some (.int _), some (.int _ _) => true
  | _, _ => false) && kh P cs fs
theorem lJ {t : TypeId} {fs : Array Field} {cs : Array Value} (ht : P.underlying t = some (.struct fs)) (h : kh P cs fs.toList = true) (e : Bool) (n : Nat) (w : World) : (Instr.checkKey e (n + 2) t (.agg cs)).run P w = .ok () w := by
 rw [Instr.checkKey]
 simp only [Sem.run_bind, run_underlying ht, Result.andThen_ok]
 rw [← Array.forIn_toList]
 generalize fs.toList = l at h ⊢
 clear ht
 induction l with
 | nil => simp
 | cons f l ih =>
  simp only [kh, Bool.and_eq_true] at h
  obtain ⟨h1, h2⟩ := h
  have ih' := ih h2
  split at h1
  · rename_i k0 k a hu hx
    have hp : (part f.type cs f.offset).run P w = .ok (.int k a) w := by simp [part, isAgg, run_underlying hu, hx]
    have hc : (Instr.checkKey e (n + 1) f.type (.int k a)).run P w = .ok () w := by
     rw [Instr.checkKey]
     simp [run_underlying hu]
    simp only [List.forIn_cons, Sem.run_bind, Sem.run_ite]
    split
    · simp only [hp, Result.andThen_ok, hc, Sem.run_pure]
      exact ih'
    · simp only [Sem.run_pure, Result.andThen_ok]
      exact ih'
  · cases h1
theorem gD {t : TypeId} {K : Type} [BEq K] {enc : K → Value} (heq : ∀ (w : World) (a b : K), (Op.equal t (enc a) (enc b)).run P w = .ok (a == b) w) {x : K} (hs : ∀ a b : K, (a == b) = (b == a)) : ∀ {es : List MapEntry} {m : List (K × Value)} {i : Nat} {w : World}, es.map (fun e => (e.key, e.val)) = m.map (fun p => (enc p.1, p.2)) →
 (Instr.findAsking t (enc x) es i).run P w = .ok ((m.findIdx? (·.1 == x)).map fun j => (i + j, ((m[j]?).map (·.2)).getD undef)) w
 | [], [], _, _, _ => rfl
 | [], _ :: _, _, _, h => by cases h
 | _ :: _, [], _, _, h => by cases h
 | e :: es, p :: m, i, w, h => by
  simp only [List.map_cons, List.cons.injEq, Prod.mk.injEq] at h
  obtain ⟨⟨h1, h2⟩, h3⟩ := h
  have ih := gD heq (x := x) hs (i := i + 1) (w := w) h3
  simp only [Instr.findAsking, h1, Sem.run_bind, heq, Result.andThen_ok, List.findIdx?_cons, hs x p.1]
  cases hx : p.1 == x with
  | true => simp [h2]
  | false =>
   simp only [Bool.false_eq_true, if_false]
   rw [ih]
   cases m.findIdx? (·.1 == x) with
   | none => rfl
   | some j => simp; omega
theorem Cn {kt : TypeId} {K : Type} [BEq K] {arr : K → Array Value} (ht : P.underlying kt = some (.struct (P.fieldsOf kt))) (hp : P.stoodInHeld kt = false) (hf : ∀ a, kh P (arr a) (P.fieldsOf kt).toList = true)
 (he : ∀ a b, nz P (arr a) (arr b) (P.fieldsOf kt).toList = some (a == b)) (hs : ∀ a b : K, (a == b) = (b == a)) (hb : ∀ k k' : K, (k == k') = true → k = k') (hbits : ∀ k : K, Instr.sameBits 10000 (.agg (arr k)) (.agg (arr k)) = true) : KeyK P kt K (fun k => .agg (arr k)) where
 check := fun e k w => lJ ht (hf k) e 9998 w
 find := fun w es m k h => by
  have heq : ∀ (w : World) (a b : K), (Op.equal kt (.agg (arr a)) (.agg (arr b))).run P w = .ok (a == b) w := fun w a b => by
   show (Op.equalIn 10000 kt (.agg (arr a)) (.agg (arr b))).run P w = _
   rw [run_equalIn_agg w 9999 kt _ _ ht hp, oo (he a b)]
  have := gD (enc := fun k => .agg (arr k)) heq (x := k) hs (i := 0) (w := w) h
  simp only [Nat.zero_add] at this
  unfold Instr.findKey
  rw [Sem.run_bind, run_underlying ht, Result.andThen_ok]
  cases es with
  | nil =>
   cases m with
   | nil => rfl
   | cons _ _ => cases h
  | cons e es =>
   have hn : Instr.findNow (.struct (P.fieldsOf kt)) (.agg (arr k)) (e :: es) 0 = none := by
    simp [Instr.findNow, Instr.sameNow]
   simp only [hn]
   exact this
 bits := fun a b h => by rw [hb a b h]; exact hbits b
 eq := hb
end
def gB {K : Type} (enc : K → Value) (b : Nat) (m : List (K × Value)) (w : World) : Prop :=
 ∃ es clock, w.heap[b]? = some (.map es clock) ∧ es.toList.map (fun e => (e.key, e.val)) = m.map (fun p => (enc p.1, p.2)) ∧ (∀ x ∈ es.toList, x.born < clock) ∧ (es.toList.map (·.born)).Nodup
def bP {K : Type} (enc : K → Value) (b : Nat) (m : List (K × Value)) : HP where
 sat w F := F b ∧ gB enc b m w
 loc hFG hk h := ⟨hFG _ h.1, let ⟨es, c, h1, h2⟩ := h.2; ⟨es, c, (hk _ h.1).trans h1, h2⟩⟩
def cI {K : Type} [BEq K] (m : List (K × Value)) (x : K) : Option Value := (m.find? (·.1 == x)).map (·.2)
theorem eI {K : Type} [BEq K] (m : List (K × Value)) (x : K) : ((m.findIdx? (·.1 == x)).map fun j => ((m[j]?).map (·.2)).getD undef) = cI m x := by
 unfold cI
 induction m with
 | nil => rfl
 | cons p m ih =>
  simp only [List.findIdx?_cons, List.find?_cons]
  cases hx : p.1 == x with
  | true => simp
  | false =>
   rw [← ih]
   cases m.findIdx? (·.1 == x) with
   | none => rfl
   | some j => simp
section
variable {P : Program} {E : Env} {n : Nat} {D : List Deferred} {ts : List (Nat × Value)} {l : List HP} {ops : Array Oper} {Q : Exit → Act → World → Prop} {i : Nat} {ty : TypeId} {pos : String} {af : Array Edge} {g : Option (Nat × Bool)} {K : Type} {enc : K → Value}
theorem fB {b : Nat} {m : List (K × Value)} {r : List HP} (s : Sel (bP enc b m) l r) : ∀ w, Holds E w l → gB enc b m w := fun w hw => by
 obtain ⟨F1, _, _, _, _, hp, _⟩ := (hw.sel s).star
 exact hp.2
theorem Holds.setVMap {b : Nat} {m m' : List (K × Value)} {r : List HP} {w : World} {es : Array MapEntry} {c : Nat} (hw : Holds E w (bP enc b m :: r)) (hes : es.toList.map (fun e => (e.key, e.val)) = m'.map fun p => (enc p.1, p.2)) (h1 : ∀ x ∈ es.toList, x.born < c) (h2 : (es.toList.map (·.born)).Nodup) :
 Holds E { w with heap := w.heap.setIfInBounds b (.map es c) } (bP enc b m' :: r) := by
 refine hw.turn Z Z Z (by simp) fun F1 hp hF => ⟨F1, fun k hk => ⟨.inl hk, by simpa using (hF k hk).1⟩, ⟨hp.1, es, c, ?_, hes, h1, h2⟩, fun k _ hk => ?_⟩
 · have := (hF b hp.1).1
   simp [this]
 · have : k ≠ b := fun h => by subst h; exact hk hp.1
   simp [Array.getElem?_setIfInBounds_ne (Ne.symm this)]
end
section
variable {P : Program} {E : Env} {n : Nat} {D : List Deferred} {ts : List (Nat × Value)} {l : List HP} {ops : Array Oper} {Q : Exit → Act → World → Prop} {i : Nat} {ty : TypeId} {pos : String} {af : Array Edge} {g : Option (Nat × Bool)} {K : Type} [BEq K] {enc : K → Value}
section
variable {y : Operand} {et kt t : TypeId} {Kk : Act → World → Prop} {d : Option Tmp} {r : List HP}
theorem rQ {x : Operand} {b : Nat} {m : List (K × Value)} {a : K} {z : Value} (ht : P.underlying t = some (.map kt et)) (hk : KeyK P kt K enc) (hz : fA P et z) (hx : ev ts x = some (.map (some b))) (hy : ev ts y = some (enc a)) :
 Ev P ts (.lookup t x y true) (.tuple #[(cI m a).getD z, .bool (cI m a).isSome]) (gB enc b m) := by
 intro ac w _ _ _ _ _ kn ⟨es, c, hb, hm, _⟩
 have h1 := hk.find w es.toList m a hm
 have h2 := eI m a
 have hg := MapKept.run_getObj_map (P := P) hb
 simp only [execOp, kn.eval hx, kn.eval hy, Instr.lookup, Sem.run_bind, run_underlying ht, Result.andThen_ok, hg, hk.check, h1, Sem.run_pure]
 cases hf : m.findIdx? (·.1 == a) with
 | none =>
  rw [hf] at h2
  simp only [Option.map_none] at h2
  simp [← h2, fj hz]
 | some j =>
  rw [hf] at h2
  simp only [Option.map_some] at h2
  simp [← h2]
theorem i6 {x : Operand} {b : Nat} {m : List (K × Value)} {a : K} {v : Value} (ht : P.underlying t = some (.map kt et)) (hk : KeyK P kt K enc) (hx : ev ts x = some (.map (some b))) (hy : ev ts y = some (enc a)) (hv : cI m a = some v) :
 Ev P ts (.lookup t x y true) (.tuple #[v, .bool true]) (gB enc b m) := by
 intro ac w _ _ _ _ _ kn ⟨es, c, hb, hm, _⟩
 have h1 := hk.find w es.toList m a hm
 have h2 := eI m a
 rw [hv] at h2
 have hg := MapKept.run_getObj_map (P := P) hb
 simp only [execOp, kn.eval hx, kn.eval hy, Instr.lookup, Sem.run_bind, run_underlying ht, Result.andThen_ok, hg, hk.check, h1, Sem.run_pure]
 cases hf : m.findIdx? (·.1 == a) with
 | none => rw [hf] at h2; simp at h2
 | some j =>
  rw [hf] at h2
  simp only [Option.map_some, Option.some.injEq] at h2
  simp [h2]
theorem km {x : Operand} {b : Nat} {m : List (K × Value)} {a : K} {z : Value} (ht : P.underlying t = some (.map kt et)) (hk : KeyK P kt K enc) (hz : fA P et z) (hx : ev ts x = some (.map (some b))) (hy : ev ts y = some (enc a)) (hv : cI m a = none) :
 Ev P ts (.lookup t x y true) (.tuple #[z, .bool false]) (gB enc b m) := by
 have := rQ (m := m) ht hk hz hx hy
 rw [hv] at this
 exact this
theorem eN {x : Operand} {b : Nat} {m : List (K × Value)} {a : K} {v : Value} (ht : P.underlying t = some (.map kt et)) (hk : KeyK P kt K enc) (hx : ev ts x = some (.map (some b))) (hy : ev ts y = some (enc a)) (hv : cI m a = some v) :
 Ev P ts (.lookup t x y false) v (gB enc b m) := by
 intro ac w _ _ _ _ _ kn ⟨es, c, hb, hm, _⟩
 have h1 := hk.find w es.toList m a hm
 have h2 := eI m a
 rw [hv] at h2
 have hg := MapKept.run_getObj_map (P := P) hb
 simp only [execOp, kn.eval hx, kn.eval hy, Instr.lookup, Sem.run_bind, run_underlying ht, Result.andThen_ok, hg, hk.check, h1, Sem.run_pure]
 cases hf : m.findIdx? (·.1 == a) with
 | none => rw [hf] at h2; simp at h2
 | some j =>
  rw [hf] at h2
  simp only [Option.map_some, Option.some.injEq] at h2
  simp [h2]
theorem qg {x z : Operand} {b : Nat} {m : List (K × Value)} {a : K} {v : Value} (hd : d = none) (ht : P.underlying t = some (.map kt et)) (hk : KeyK P kt K enc) (hx : ev ts x = some (.map (some b))) (hy : ev ts y = some (enc a)) (hz : ev ts z = some v)
 (s : Sel (bP enc b m) l r) (hn : cI m a = none) (h : At E n D ts (bP enc b (m ++ [(a, v)]) :: r) Kk) : At E n D ts l (fun ac w => (Oper.mk d (.mapUpdate t x y z) ty pos af g).wp P ac w Kk Q) := fun ac w f hw => by
 subst hd
 have hw' := hw.sel s
 obtain ⟨es, c, hb, hm, hs1, hs2⟩ := fB .head w hw'
 have h1 := hk.find w es.toList m a hm
 have h2 := eI m a
 have hg := MapKept.run_getObj_map (P := P) hb
 have hf : m.findIdx? (·.1 == a) = none := by
  cases hf : m.findIdx? (·.1 == a) with
  | none => rfl
  | some j => rw [hf, hn] at h2; simp at h2
 rw [hf] at h1
 have hs := MapKept.run_setObj_map (P := P) (.map (es.push { key := enc a, val := v, born := c }) (c + 1)) hb
 have hr : (execOp ac.eval (Oper.mk none (.mapUpdate t x y z) ty pos af g)).run P w = .ok .skip { w with heap := w.heap.setIfInBounds b (.map (es.push { key := enc a, val := v, born := c }) (c + 1)) } := by
  simp only [execOp, f.eval hx, f.eval hy, f.eval hz, Instr.mapUpdate, Sem.run_bind, run_underlying ht, Result.andThen_ok, hg, hk.check, h1, Option.map_none, hs, Sem.run_pure]
 show (Oper.mk none (.mapUpdate t x y z) ty pos af g).wp P ac w Kk Q
 unfold Oper.wp
 rw [hr]
 refine h ac _ f (hw'.setVMap (by simp [hm]) (fun y hy => ?_) ?_)
 · rw [Array.toList_push, List.mem_append] at hy
   rcases hy with hy | hy
   · exact Nat.lt_succ_of_lt (hs1 y hy)
   · simp at hy; subst hy; exact Nat.lt_succ_self _
 · rw [Array.toList_push, List.map_append, List.nodup_append]
   refine ⟨hs2, by simp, fun y hy z hz => ?_⟩
   obtain ⟨e, he, rfl⟩ := List.mem_map.1 hy
   simp at hz
   subst hz
   exact Nat.ne_of_lt (hs1 e he)
theorem qh {x : Operand} {b : Nat} {m : List (K × Value)} {a : K} (hd : d = none) (ht : P.underlying t = some (.map kt et)) (hk : KeyK P kt K enc) (hx : ev ts x = some (.map (some b))) (hy : ev ts y = some (enc a))
 (s : Sel (bP enc b m) l r) (h : At E n D ts (bP enc b (m.eraseP (·.1 == a)) :: r) Kk) : At E n D ts l (fun ac w => (Oper.mk d (.call { callee := .builtin .delete, args := #[x, y], argTypes := #[t, kt] }) ty pos af g).wp P ac w Kk Q) := fun ac w f hw => by
 subst hd
 have hw' := hw.sel s
 obtain ⟨es, c, hb, hm, hs1, hs2⟩ := fB .head w hw'
 have h1 := hk.find w es.toList m a hm
 have hg := MapKept.run_getObj_map (P := P) hb
 obtain ⟨es', hes', hs1', hs2', hrun⟩ : ∃ es' : Array MapEntry, es'.toList.map (fun e => (e.key, e.val)) = (m.eraseP (·.1 == a)).map (fun p => (enc p.1, p.2)) ∧ (∀ x ∈ es'.toList, x.born < c) ∧ (es'.toList.map (·.born)).Nodup ∧ (Builtin.delete_ #[t, kt] ty #[.map (some b), enc a]).run P w = .ok (.tuple #[]) { w with heap := w.heap.setIfInBounds b (.map es' c) } := by
  cases hf : m.findIdx? (·.1 == a) with
  | none =>
   rw [hf] at h1
   have hs := MapKept.run_setObj_map (P := P) (.map es c) hb
   refine ⟨es, ?_, hs1, hs2, ?_⟩
   · rw [hm, List.eraseP_of_forall_not]
     intro p hp
     have := List.findIdx?_eq_none_iff.1 hf p hp
     simpa using this
   · simp only [Builtin.delete_, List.getElem?_toArray, List.getElem?_cons_zero, List.getElem?_cons_succ, Sem.run_bind, run_underlying ht, Result.andThen_ok, hg, hk.check, h1, Option.map_none, hs, Sem.run_pure]
  | some j =>
   rw [hf] at h1
   have hs := MapKept.run_setObj_map (P := P) (.map (es.eraseIdxIfInBounds j) c) hb
   have he : (es.eraseIdxIfInBounds j).toList = es.toList.eraseIdx j := by
    unfold Array.eraseIdxIfInBounds
    split
    · simp
    · rename_i hlt
      rw [List.eraseIdx_of_length_le (by simpa using hlt)]
   refine ⟨es.eraseIdxIfInBounds j, ?_, ?_, ?_, ?_⟩
   · rw [he, fq, hm, ← fq, List.eraseP_eq_eraseIdx, hf]
   · intro x hx
     rw [he] at hx
     exact hs1 x ((List.eraseIdx_sublist _ _).subset hx)
   · rw [he]
     exact hs2.sublist ((List.eraseIdx_sublist _ _).map _)
   · simp only [Builtin.delete_, List.getElem?_toArray, List.getElem?_cons_zero, List.getElem?_cons_succ, Sem.run_bind, run_underlying ht, Result.andThen_ok, hg, hk.check, h1, Option.map_some, hs, Sem.run_pure]
 have hr : (execOp ac.eval (Oper.mk none (.call { callee := .builtin .delete, args := #[x, y], argTypes := #[t, kt] }) ty pos af g)).run P w = .ok (.value (.tuple #[])) { w with heap := w.heap.setIfInBounds b (.map es' c) } := by
  simp [execOp, resolve, invoke, builtin, f.eval hx, f.eval hy, hrun]
 show (Oper.mk none (.call { callee := .builtin .delete, args := #[x, y], argTypes := #[t, kt] }) ty pos af g).wp P ac w Kk Q
 unfold Oper.wp
 rw [hr]
 exact h ac _ f (hw'.setVMap hes' hs1' hs2')
end
end
section
variable {P : Program} {E : Env} {n : Nat} {D : List Deferred} {ts : List (Nat × Value)} {l : List HP} {ops : Array Oper} {Q : Exit → Act → World → Prop} {i : Nat} {ty : TypeId} {pos : String} {af : Array Edge} {g : Option (Nat × Bool)} {K : Type} {enc : K → Value}
theorem vO {t kt et : TypeId} {x : Operand} {b : Nat} {m : List (K × Value)} (ht : P.underlying t = some (.map kt et)) (hx : ev ts x = some (.map (some b))) : Ev P ts (.call { callee := .builtin .len, args := #[x], argTypes := #[t] }) (.int .i64 m.length) (gB enc b m) := by
 intro a w _ _ _ _ _ kn ⟨es, c, hb, hm, _⟩
 have hg := MapKept.run_getObj_map (P := P) hb
 have hl : es.size = m.length := by
  have := congrArg List.length hm
  simpa using this
 simp [execOp, resolve, invoke, builtin, Builtin.len_, kn.eval hx, run_underlying ht, goInt, hg, hl]
variable (enc) in
theorem fZ {t : TypeId} {Kk : Act → World → Prop} (hi : Nat.blt i n = true) (h : ∀ b, At E n D ((i, .map (some b)) :: ts) (bP enc b [] :: l) Kk) : At E n D ts l (fun ac w => (Oper.mk (some i) (.makeMap t none) ty pos af g).wp P ac w Kk Q) := fun ac w f hw => by
 have hr : (execOp ac.eval (Oper.mk (some i) (.makeMap t none) ty pos af g)).run P w = .ok (.value (.map (some w.heap.size))) (w.alloc (.map #[] 0)) := rfl
 show (Oper.mk (some i) (.makeMap t none) ty pos af g).wp P ac w Kk Q
 unfold Oper.wp
 rw [hr]
 have h0 := hw.alloc (.map #[] 0)
 refine h _ _ _ (f.put i (Nat.le_of_ble_eq_true hi) _) (h0.ent ?_)
 exact fun w F ⟨F1, F2, h1, h2, hd, hp, hl⟩ => ⟨F1, F2, h1, h2, hd, ⟨hp.1, #[], 0, hp.2, rfl, by simp, by simp⟩, hl⟩
end
end Go.SL

set_option maxRecDepth 10000
namespace Go.SL
open Go Go.RowKit
section
variable {P : Program} {ts : List (Nat × Value)}
def vm (b : Nat) (w : World) : Prop := ∃ cs t, w.heap[b]? = some (.cells cs t (0, 0))
theorem Bf {t t' e : TypeId} {x y : Operand} {b c m : Nat} {r : Bool} (ht : P.underlying t = some (.pointer e)) (hz : ce P e (m + 1)) (hx : ev ts x = some (.pointer (some ⟨b, 0, none⟩))) (hy : ev ts y = some (.pointer (some ⟨c, 0, none⟩))) (hr : decide (b = c) = r) : Ev P ts (.binOp .eql t x y t') (.bool r) (fun w => vm b w ∧ vm c w) := by
 intro ac w _ _ _ _ _ kn ⟨⟨cs, u, hb⟩, cs', u', hc⟩
 subst hr
 refine dm (kn.eval hx) (kn.eval hy) (by simp [eqGuard]) (jh Z fun d => ?_)
 by_cases h : b = c
 · subst h
   simp [Op.equalIn, run_underlying ht, bT hz, run_sameAddr_same]
 · have := run_sameAddr_other (P := P) w (a := ⟨b, 0, none⟩) (b := ⟨c, 0, none⟩) (by simp) hb hc
   simp [Op.equalIn, run_underlying ht, bT hz, this, h]
end
end Go.SL
namespace Go.Proofs.YtmeegfamopaljaaGreatDoor
open Go Go.RowKit Go.SL
variable {G : Env → Prop}
abbrev aO (b : Nat) : Value := .pointer (some ⟨b, 0, none⟩)
abbrev cK (v : Value) (bs : List Nat) : HP := row 338 1 v bs.length (bs.map aO)
theorem A5 : (Tryz.prog.info? 338).map (fun i => (i.zero, i.size, i.bytes)) = some (some (.pointer none), 1, 8) := by kernel_rfl
structure Below' (p : HP) (bs : List Nat) (sq : Nat → Nat) (n : Nat) : Prop where
 lt : ∀ b ∈ bs, sq b < n
 cell : ∀ w F, p.sat w F → ∀ b ∈ bs, w.cell? ⟨b, 4, none⟩ = some (.int .u64 (sq b))
section
variable {bs : List Nat} {A : Option Addr} {sq : Nat → Nat} {c n : Nat} {l r : List HP}
theorem Below'.at {E : Env} {p : HP} {b : Nat} (h : Below' p bs sq n) (s : Sel p l r) (hb : b ∈ bs) : ∀ w, Holds E w l → bK ⟨b, 4, none⟩ (.int .u64 (sq b)) w := fun w hw => by
 obtain ⟨F1, _, _, _, _, hp, _⟩ := (hw.sel s).star
 exact h.cell w F1 hp b hb
theorem Az {a : Nat} (h : a < n) (hn : n < 9223372036854775808) : IntKind.i64.wrap (IntKind.u64.wrap ((a : Int) - (n : Int))) = (a : Int) - n := by
 rw [kE]
 have : ((a : Int) - n) % 18446744073709551616 = (a : Int) - n + 18446744073709551616 := by omega
 rw [this, IntKind.wrap_i64]
 omega
theorem put1 {p : HP} (hp : Below' p bs sq n) (hn : n < 9223372036854775808) (b : Nat) (hb : b ∈ bs) : Does Tryz.prog G 229 [aO b, .int .u64 n].toArray [p] fun v m => v = .int .i64 ((sq b : Int) - n) ∧ m = [p] := by
 have hlt := hp.lt b hb
 refine Does.body Tryz.func229 Z Z fun E fr hE => ?_
 exact ai (At.seq (At.region (L.as Z Z (L.nil (At.then (At.seq (At.region (L.mv Z Z (aR Z Z (aI 4 Z Z Z (L.val Z (aa Z Z) (hp.at .head hb) (L.mv Z Z (L.pure Z (eu Z Z Z) (L.pure Z (bz Z Z Z (Az hlt hn)) (L.as Z Z (L.nil (At.then (At.ret (aA [_] rfl Z ⟨rfl, rfl⟩ (Ent.refl _))))))))))))))))))))
theorem half (i n : Nat) (h : i < n) (hn : n ≤ 100000) : ((IntKind.u64.wrap ((i + n : Nat) : Int))).fdiv (2 ^ min ((1 : Int)).toNat IntKind.u64.bits) = (((i + n) / 2 : Nat) : Int) := by
 rw [kE]
 have h1 : ((i + n : Nat) : Int) % 18446744073709551616 = ((i + n : Nat) : Int) := by omega
 have h2 : (2 : Int) ^ min ((1 : Int)).toNat IntKind.u64.bits = 2 := rfl
 rw [h1, h2, Int.fdiv_eq_ediv_of_nonneg _ (by omega)]
 omega
theorem ue {p : HP} (hp : Below' p bs sq n) (hn : n < 9223372036854775808) (hl : bs.length ≤ 100000) :
 Does Tryz.prog G 228 [.slice A bs.length c, .int .u64 n, .func (.func 229) #[] #[]].toArray [cK (.slice A bs.length c) bs, p]
  fun v m => v = .tuple #[.int .i64 bs.length, .bool false] ∧ m = [cK (.slice A bs.length c) bs, p] := by
 refine Does.body Tryz.func228 Z Z fun E fr hE => ?_
 refine aJ (aC .head ?_)
 intro A' c' hA hnil hform hc1 hc2 _
 injection hA with hA _ hcc
 subst hA; subst hcc
 have hc3 : c ≤ 9223372036854775807 := by unfold maxLen at hc2; omega
 refine At.seq (At.region (L.as Z Z (L.as Z Z (L.nil (At.then (At.seq (At.region (L.mv Z Z (L.pure Z (aM Z Z) (L.as Z Z (L.nil (At.then (At.seq (At.region (L.mv Z Z (L.as Z Z (L.as Z Z (L.nil (At.then ?_)))))))))))))))))))
 refine At.seq (At.block ?_)
 refine bk (X := Nat) (fun i => [(9, .int .i64 i), (10, .int .i64 bs.length), (8, .int .i64 bs.length), (0, .slice A bs.length c), (1, .int .u64 n), (2, .func (.func 229) #[] #[])]) (fun _ => cK (.slice A bs.length c) bs :: p :: fr) (fun i => i ≤ bs.length) (fun i => bs.length - i) 0 (by omega) ⟨rfl, rfl, rfl, rfl, rfl, rfl, trivial⟩ (Ent.refl _) ?_
 intro i hi
 refine At.seq (At.seq (At.region (L.mv Z Z (L.mv Z Z (L.pure Z (bl Z Z Z) (L.nil (At.then ?_)))))))
 refine aE Z (fun c17 => ?_) (fun c17 => ?_)
 ·
  have hlt : i < bs.length := by omega
  obtain ⟨g, rfl⟩ : ∃ g, A = some ⟨g, 0, none⟩ := by
   cases A with
   | none => have := (hnil rfl).1; omega
   | some ad => obtain ⟨g, rfl⟩ := hform ad rfl; exact ⟨g, rfl⟩
  obtain ⟨h, hh⟩ : ∃ h, h = (i + bs.length) / 2 := ⟨_, rfl⟩
  have hhl : h < bs.length := by omega
  obtain ⟨b, hb⟩ : ∃ b, bs[h]? = some b := ⟨bs[h], by simp [hhl]⟩
  have hbm := List.mem_of_getElem? hb
  have hblt := hp.lt b hbm
  refine At.skip (At.then (At.block (At.seq (At.region (L.mv Z Z (L.mv Z Z (L.pure Z (aS (r := ((i + bs.length : Nat) : Int)) Z Z (by rw [dd (by omega)]; omega)) (L.pure Z (bz Z Z Z Z) ?_))))))))
  refine L.pure Z (eZ (r := (h : Int)) Z Z (by omega) (by rw [hh]; exact half i bs.length hlt hl)) ?_
  refine L.pure Z (bz Z Z Z (dd (by omega))) (L.as Z Z (L.nil (At.then (At.seq (At.region (L.mv Z Z (L.mv Z Z (L.mv Z Z (L.pure Z (aT (z := 1) Z Z Z Z hhl) (L.val Z (aa (v := aO b) Z Z) (bJ .head (by simp [hb])) (L.mv Z Z ?_)))))))))))
  refine L.op Z (j6 Z Z Z Z hE (put1 hp hn b hbm) (Ent.sel (.tail (.head))) ?_)
  rintro v m ⟨rfl, rfl⟩
  refine ai (L.pure Z (bl (r := true) Z Z (by rw [decide_eq_true_eq]; omega)) (L.nil (At.then (aQ Z (At.region (L.mv Z Z (L.pure Z (aS Z Z (dd (by omega))) (L.as Z Z (L.nil (an ?_))))))))))
  exact At.round (h + 1) (by omega) (by omega) ⟨rfl, rfl, rfl, rfl, rfl, rfl, trivial⟩ (Ent.perm (List.Perm.swap _ _ _))
 ·
  obtain rfl : i = bs.length := by omega
  refine At.exit (az (ay (ar (At.then (At.seq (At.region (L.mv Z Z (L.mv Z Z (L.mv Z Z (L.pure Z (bl (r := false) Z Z (by simp)) (L.mv Z Z (L.off Z Z Z Z Z Z (L.off Z Z Z Z Z Z (L.off Z Z Z Z Z Z (L.off Z Z Z Z Z Z (L.off Z Z Z Z Z Z (L.off Z Z Z Z Z Z (L.off Z Z Z Z Z Z (L.off Z Z Z Z Z Z (L.pure Z (aq Z Z Z) (L.as Z Z (L.as Z Z ?_))))))))))))))))))))))
  exact L.nil (At.then (At.ret (cU [_, _] rfl Z Z ⟨rfl, rfl⟩ (Ent.refl _))))
theorem uF {g t : Nat} (hl : bs.length ≤ 100000) :
 Does Tryz.prog G 230 [.slice A bs.length c, .int .i64 bs.length, .slice (some ⟨g, 0, none⟩) 1 1].toArray [cK (.slice A bs.length c) bs, blk g 338 #[aO t]]
  fun v m => (∃ A' c', v = .slice A' (bs ++ [t]).length c') ∧ m = [cK v (bs ++ [t])] := by
 refine Does.body Tryz.func230 Z Z fun E fr hE => ?_
 refine aJ (aC .head ?_)
 intro A' c' hA hnil hform hc1 hc2 _
 injection hA with hA _ hcc
 subst hA; subst hcc
 refine At.seq (At.region (L.as Z Z (L.nil (At.then (At.seq (At.region (L.mv Z Z (L.mv Z Z (L.pure Z (dc (z := 1) (a := bs.length) (b := bs.length) Z Z Z ⟨_, rfl⟩ rfl (Nat.le_refl _) hc1) (L.nil (At.then (At.seq (At.region (L.mv Z Z (L.pure Z (aM Z Z) (L.as Z Z (L.nil (At.then (At.seq ?_)))))))))))))))))))
 refine At.seq (At.region (L.mv Z Z (L.pure Z (aH (r := false) Z Z Z) (L.nil (At.then (aj Z (At.skip (At.then (At.seq (At.region (L.mv Z Z (L.pure Z (aM Z Z) (L.as Z Z (L.nil (At.then (At.seq (At.seq (At.region (L.mv Z Z ?_)))))))))))))))))))
 refine L.mv Z Z (L.pure Z (aH (r := true) Z Z (by simp)) (L.nil (At.then (aQ Z (At.seq (At.region (L.mv Z Z (L.mv Z Z ?_))))))))
 refine L.op rfl (cm rfl rfl A5 rfl (by omega) rfl rfl .head (news := [aO t]) rfl (fun h => by cases h) (fN (fun j u h => by simpa using h)) (by simp [Value.oneCell']) (by unfold maxLen; omega) (by omega) fun v' hv' => ?_)
 refine aC .head ?_
 rintro A7 c7 rfl _ _ _ _ _
 refine L.as Z Z (L.nil (At.then (At.ret (aG ?_))))
 exact aA [_] rfl Z ⟨⟨A7, c7, by simp⟩, rfl⟩ (by simp only [cK, List.length_append, List.map_append, List.length_cons, List.length_nil, List.map_cons, List.map_nil]; exact Ent.cons Ent.drop)
def Blks (p : HP) (bs : List Nat) : Prop := ∀ w F, p.sat w F → ∀ b ∈ bs, vm b w
theorem Blks.at {E : Env} {p : HP} {b : Nat} (h : Blks p bs) (s : Sel p l r) (hb : b ∈ bs) : ∀ w, Holds E w l → vm b w := fun w hw => by
 obtain ⟨F1, _, _, _, _, hp, _⟩ := (hw.sel s).star
 exact h w F1 hp b hb
theorem drop1 {p : HP} (hp : Blks p bs) (o t cl : Nat) (ho : o ∈ bs) (ht : t ∈ bs) : Does Tryz.prog G 226 [aO o, aO cl].toArray [blk cl 338 #[aO t], p] fun v m => v = .bool (decide (o = t)) ∧ m = [blk cl 338 #[aO t], p] := by
 refine Does.body Tryz.func226 Z Z fun E fr hE => ?_
 refine aJ (At.seq (At.region (L.as Z Z (L.nil (At.then (At.seq (At.region (L.mv Z Z (bd Z Z Z Z ?_)))))))))
 refine L.val Z (Bf (m := 6) Z Z Z Z Z) (fun w hw => ⟨hp.at (.tail (.head)) ho w hw, hp.at (.tail (.head)) ht w hw⟩) ?_
 exact L.as Z Z (L.nil (At.then (At.ret (aA [_, _] rfl Z ⟨rfl, rfl⟩ (Ent.refl _)))))
theorem zC {p : HP} (hp : Blks p bs) {i t cl : Nat} (hi : bs[i]? = some t) (hne : ∀ j, j < i → bs[j]? ≠ some t) (hl : bs.length ≤ 100000) :
 Does Tryz.prog G 251 [.slice A bs.length c, .func (.func 226) #[] #[aO cl]].toArray [cK (.slice A bs.length c) bs, blk cl 338 #[aO t], p]
  fun v m => v = .int .i64 i ∧ m = [cK (.slice A bs.length c) bs, blk cl 338 #[aO t], p] := by
 have hil := (List.getElem?_eq_some_iff.1 hi).1
 refine Does.body Tryz.func251 Z Z fun E fr hE => ?_
 refine cE (aC .head ?_)
 intro A' c' hA hnil hform hc1 hc2 _
 injection hA with hA _ hcc
 subst hA; subst hcc
 obtain ⟨g, rfl⟩ : ∃ g, A = some ⟨g, 0, none⟩ := by
  cases A with
  | none => have := (hnil rfl).1; omega
  | some ad => obtain ⟨g, rfl⟩ := hform ad rfl; exact ⟨g, rfl⟩
 refine At.seq (At.region (L.as Z Z (L.nil (At.then (At.seq (At.seq (At.region (L.mv Z Z (L.pure Z (aM Z Z) (L.mv Z Z (L.nil (At.then (At.block ?_)))))))))))))
 refine bk (X := Nat) (fun k => [(8, .int .i64 k), (7, .int .i64 bs.length), (0, .slice (some ⟨g, 0, none⟩) bs.length c), (1, .func (.func 226) #[] #[aO cl])]) (fun _ => cK (.slice (some ⟨g, 0, none⟩) bs.length c) bs :: blk cl 338 #[aO t] :: p :: fr) (fun k => k ≤ i) (fun k => i - k) 0 (by omega) ⟨rfl, rfl, rfl, rfl, trivial⟩ (Ent.refl _) ?_
 intro k hk
 refine At.seq (At.region (L.pure Z (bl Z Z Z) (L.nil (At.then (At.seq ?_)))))
 refine aE Z (fun c9 => ?_) (fun c9 => ?_)
 ·
  have hlt : k < bs.length := by omega
  obtain ⟨o, ho⟩ : ∃ o, bs[k]? = some o := ⟨bs[k], by simp [hlt]⟩
  have hom := List.mem_of_getElem? ho
  have htm := List.mem_of_getElem? hi
  refine At.skip (At.then (At.seq (At.block (At.seq (At.region (L.mv Z Z (L.as Z Z (L.nil (At.then (At.seq (At.region (L.mv Z Z (L.mv Z Z (L.mv Z Z (L.pure Z (aT (z := 1) Z Z Z Z hlt) (L.val Z (aa (v := aO o) Z Z) (bJ .head (by simp [ho])) ?_))))))))))))))))
  refine L.op Z (j6 Z Z Z Z hE (drop1 hp o t cl hom htm) (aP (.tail (.head)) (.tail (.head))) ?_)
  rintro v m ⟨rfl, rfl⟩
  refine aJ (L.nil (At.then ?_))
  refine aE Z (fun c16 => ?_) (fun c16 => ?_)
  ·
   have hki : k = i := Nat.le_antisymm hk (Nat.le_of_not_lt fun h => hne k h (by rw [ho, c16]))
   subst hki
   exact At.seq (At.region (L.mv Z Z (L.as Z Z (L.nil (At.then (At.ret (aB (aG (cp (aB (aG (aA [_, _, _] rfl Z ⟨rfl, rfl⟩ (cc (.tail (.tail (.head))) .head .head)))))))))))))
  ·
   have hki : k ≠ i := fun h => c16 (by subst h; rw [hi] at ho; injection ho with ho; exact ho.symm)
   refine At.skip (an (At.then (At.region (L.pure Z (aS Z Z (dd (by omega))) (L.mv Z Z (L.nil ?_))))))
   exact At.round (k + 1) (by omega) (by omega) ⟨rfl, rfl, rfl, rfl, trivial⟩ (cc (.tail (.tail (.head))) .head .head)
 ·
  refine At.exit (az (ay (ar (At.then (At.seq (At.region (L.as Z Z (L.nil (At.then (At.ret ?_))))))))))
  exact absurd hk (by omega)
end
end Go.Proofs.YtmeegfamopaljaaGreatDoor

namespace Go.SL
open Go Go.RowKit
def iD {α : Type} : List α → Nat → List α → List α
 | xs, _, [] => xs
 | xs, o, v :: vs => iD (xs.set o v) (o + 1) vs
theorem eF {α : Type} : ∀ (vs xs : List α) (o : Nat), (iD xs o vs).length = xs.length
 | [], _, _ => rfl
 | v :: vs, xs, o => by simp [iD, eF vs]
theorem ge {α : Type} : ∀ (vs xs : List α) (o j : Nat), (j < o ∨ o + vs.length ≤ j) → (iD xs o vs)[j]? = xs[j]?
 | [], _, _, _, _ => rfl
 | v :: vs, xs, o, j, h => by
  simp only [iD]
  rw [ge vs (xs.set o v) (o + 1) j (by simp at h; omega), List.getElem?_set_ne (by simp at h; omega)]
theorem lf {α : Type} : ∀ (vs xs : List α) (o j : Nat) (u : α), o + vs.length ≤ xs.length → vs[j]? = some u → (iD xs o vs)[o + j]? = some u
 | [], _, _, _, _, _, h => by simp at h
 | v :: vs, xs, o, 0, u, hl, h => by
  simp at h hl; subst h
  simp only [iD]
  rw [ge vs (xs.set o v) (o + 1) (o + 0) (by omega)]
  simp only [Nat.add_zero] at hl ⊢
  exact List.getElem?_set_self (by omega)
 | v :: vs, xs, o, j + 1, u, hl, h => by
  simp only [iD]
  have := lf vs (xs.set o v) (o + 1) j u (by simp at hl ⊢; omega) (by simpa using h)
  rw [show o + (j + 1) = o + 1 + j by omega]
  exact this
theorem l6 {α : Type} : ∀ (vs xs : List α) (o k : Nat), (iD xs o vs).take k = iD (xs.take k) o vs
 | [], _, _, _ => rfl
 | v :: vs, xs, o, k => by simp only [iD]; rw [l6 vs, List.take_set]
theorem gk : ∀ (vs : List Value) (cs : Array Value) (o : Nat), (fg cs o vs).toList = iD cs.toList o vs
 | [], _, _ => rfl
 | v :: vs, cs, o => by simp only [fg, iD]; rw [gk vs]; simp
section
variable {P : Program} {E : Env} {n : Nat} {D : List Deferred} {ts : List (Nat × Value)} {l : List HP} {ops : Array Oper} {Q : Exit → Act → World → Prop} {ty : TypeId} {pos : String} {af : Array Edge} {gd : Option (Nat × Bool)}
section
variable {K : Act → World → Prop} {y : Operand} {r : List HP} {e t : TypeId}
theorem dZ {x : Operand} {g o m c size : Nat} {v : Value} {xs : List Value} (s : Sel (row e size (.slice (some ⟨g, 0, none⟩) m c) m xs) l r) (hz : ce P t 1) (hx : ev ts x = some (.pointer (some ⟨g, o, none⟩))) (hy : ev ts y = some v) (hv : v.oneCell' = true)
 (ho : o < m * size) (h : At E n D ts (row e size (.slice (some ⟨g, 0, none⟩) m c) m (xs.set o v) :: r) K) : At E n D ts l (fun a w => (Oper.mk none (.store t x y) ty pos af gd).wp P a w K Q) := by
 refine jx s (fun h _ _ => by cases h) ?_
 intro g' cap cur hg _ hm hc hs ht
 injection hg with hg _ hcap
 injection hg with hg
 injection hg with hg
 subst hg; subst hcap
 have hoc : o < cur.size := by rw [hs]; exact Nat.lt_of_lt_of_le ho (Nat.mul_le_mul_right _ hm)
 refine bB Z hz hx hy hv hoc (At.ent (cC hm hc (by rw [Array.size_setIfInBounds]; exact hs) ?_) h)
 rw [Array.toList_setIfInBounds, List.take_set, ht]
theorem jU {x : Operand} {g o m c size k : Nat} {vs xs : List Value} (s : Sel (row e size (.slice (some ⟨g, 0, none⟩) m c) m xs) l r) (hz : ce P t k) (hk : vs.length = k) (hx : ev ts x = some (.pointer (some ⟨g, o, none⟩))) (hy : ev ts y = some (.agg vs.toArray)) (hv : ∀ u ∈ vs, u.oneCell' = true)
 (ho : o + k ≤ m * size) (h : At E n D ts (row e size (.slice (some ⟨g, 0, none⟩) m c) m (iD xs o vs) :: r) K) : At E n D ts l (fun a w => (Oper.mk none (.store t x y) ty pos af gd).wp P a w K Q) := by
 refine jx s (fun h _ _ => by cases h) ?_
 intro g' cap cur hg _ hm hc hs ht
 injection hg with hg _ hcap
 injection hg with hg
 injection hg with hg
 subst hg; subst hcap
 have hoc : o + k ≤ cur.size := by rw [hs]; exact Nat.le_trans ho (Nat.mul_le_mul_right _ hm)
 refine aK Z hz hx hy hk hv (by omega) (At.ent (cC hm hc (by rw [eD]; exact hs) ?_) h)
 rw [gk, l6, ht]
end
end
open Go Go.RowKit
section
variable {P : Program} {E : Env} {n : Nat} {D : List Deferred} {ts : List (Nat × Value)} {l : List HP} {ops : Array Oper} {Q : Exit → Act → World → Prop} {ty : TypeId} {pos : String} {af : Array Edge} {g : Option (Nat × Bool)}
theorem za {t e tb : TypeId} {x : Operand} {b o c : Nat} {z : Value} {cs : Array Value} {r : List HP} {d : Option Tmp} {K : Act → World → Prop} [hh : Has b l (.cells cs tb) r] (hd : d = none) (ht : P.underlying t = some (.slice e)) (hz : fA P e z) (hone : z.cells = #[z])
 (hx : ev ts x = some (.slice (some ⟨b, o, none⟩) 1 c)) (hv : z.oneCell' = true) (hi : o < cs.size) (h : At E n D ts (blk b tb (cs.setIfInBounds o z) :: r) K) :
 At E n D ts l (fun a w => (Oper.mk d (.call { callee := .builtin .clear, args := #[x], argTypes := #[t] }) ty pos af g).wp P a w K Q) := fun a w f hw => by
 subst hd
 have hb := (hw.ob hh.sel).1
 have : (execOp a.eval (Oper.mk none (.call { callee := .builtin .clear, args := #[x], argTypes := #[t] }) ty pos af g)).run P w = .ok (.value (.tuple #[])) (w.setCell ⟨b, o, none⟩ z) := by
  simp [execOp, resolve, invoke, builtin, f.eval hx, Builtin.clear_, run_underlying ht, fj hz, hone, Builtin.zeroCells, storeCells, add_plain, ii hb hi hv]
 show (Oper.mk none (.call { callee := .builtin .clear, args := #[x], argTypes := #[t] }) ty pos af g).wp P a w K Q
 unfold Oper.wp
 rw [this]
 exact h a _ f (hw.store hh.sel)
theorem Bd {t e : TypeId} {x o : Operand} {b m c a d : Nat} {k : IntKind} (ht : P.underlying t = some (.slice e)) (hz : ce P e 1) (hx : ev ts x = some (.slice (some ⟨b, 0, none⟩) m c)) (ho : ev ts o = some (.int k (a : Int))) (h1 : a ≤ m) (h2 : m ≤ c) (hne : c ≠ a) (hd : m - a = d) :
 Ev P ts (.slice t x (some o) none none) (.slice (some ⟨b, a, none⟩) d (c - a)) Any := by
 have := dc (P := P) (lo := some o) (hi := none) (a := a) (b := m) ht hz hx ⟨k, ho⟩ rfl h1 h2
 rw [if_neg hne, hd] at this
 simpa [add_plain] using this
theorem Be {t e : TypeId} {x o : Operand} {b m c a : Nat} {k : IntKind} (ht : P.underlying t = some (.slice e)) (hz : ce P e 1) (hx : ev ts x = some (.slice (some ⟨b, 0, none⟩) m c)) (ho : ev ts o = some (.int k (a : Int))) (h2 : a ≤ c) :
 Ev P ts (.slice t x none (some o) none) (.slice (some ⟨b, 0, none⟩) a c) Any := by
 have := dc (P := P) (lo := none) (hi := some o) (a := 0) (b := a) ht hz hx rfl ⟨k, ho⟩ (Nat.zero_le _) h2
 simpa [add_plain] using this
end
end Go.SL
namespace Go.Proofs.YtmeegfamopaljaaGreatDoor
open Go Go.RowKit Go.SL
variable {G : Env → Prop}
def xQ (bs : List Nat) (i j : Nat) : List Value := ((bs.eraseIdx i).take (j - 1) ++ bs.drop (j - 1)).map aO
theorem wY (bs : List Nat) (i : Nat) (hi : i < bs.length) : xQ bs i (i + 1) = bs.map aO := by
 unfold xQ
 have : (bs.eraseIdx i).take i = bs.take i := by
  rw [List.eraseIdx_eq_take_drop_succ, List.take_append_of_le_length (by simp; omega), List.take_take, Nat.min_self]
 rw [Nat.add_sub_cancel, this, List.take_append_drop]
theorem Ch {bs : List Nat} {i j : Nat} {o : Nat} (hij : i < j) (hj : bs[j]? = some o) : (xQ bs i j)[j]? = some (aO o) := by
 have hl := (List.getElem?_eq_some_iff.1 hj).1
 unfold xQ
 rw [List.getElem?_map, List.getElem?_append_right (by simp [List.length_eraseIdx]; split <;> omega)]
 have h1 : ((bs.eraseIdx i).take (j - 1)).length = j - 1 := by simp [List.length_eraseIdx]; split <;> omega
 rw [h1, List.getElem?_drop, show j - 1 + (j - (j - 1)) = j by omega, hj]
 rfl
theorem zj {bs : List Nat} {i j : Nat} {o : Nat} (hij : i < j) (hj : bs[j]? = some o) : (xQ bs i j).set (j - 1) (aO o) = xQ bs i (j + 1) := by
 have hl := (List.getElem?_eq_some_iff.1 hj).1
 have h1 : ((bs.eraseIdx i).take (j - 1)).length = j - 1 := by simp [List.length_eraseIdx]; split <;> omega
 have h2 : (bs.eraseIdx i)[j - 1]? = some o := by
  rw [List.getElem?_eraseIdx, if_neg (by omega), show j - 1 + 1 = j by omega, hj]
 have h3 : bs.drop (j - 1) = bs[j - 1] :: bs.drop j := by
  rw [List.drop_eq_getElem_cons (by omega)]
  congr 2
  omega
 unfold xQ
 rw [← List.map_set, List.set_append_right _ _ (by omega), h1, Nat.sub_self, h3, List.set_cons_zero, Nat.add_sub_cancel]
 have h4 := gO h2
 rw [show j - 1 + 1 = j by omega] at h4
 rw [h4]
 simp
theorem AT {bs : List Nat} {i : Nat} (hi : i < bs.length) : (xQ bs i bs.length).take (bs.length - 1) = (bs.eraseIdx i).map aO := by
 unfold xQ
 have h1 : (bs.eraseIdx i).length = bs.length - 1 := by simp [List.length_eraseIdx, hi]
 rw [← List.map_take, List.take_append_of_le_length (by simp [h1]), List.take_take, Nat.min_self, List.take_of_length_le (by omega)]
theorem Bq {bs : List Nat} {i c : Nat} {cur : Array Value} {z : Value} (hs : cur.size = c * 1) (ht : cur.toList.take (bs.length * 1) = xQ bs i bs.length) (hc : bs.length ≤ c) (hi : i < bs.length) : (cur.setIfInBounds (bs.length - 1) z).toList.take ((bs.length - 1) * 1) = (bs.eraseIdx i).map aO := by
 rw [← AT hi, ← ht, Array.toList_setIfInBounds, List.take_set, List.take_take]
 rw [List.set_eq_of_length_le (by simp; omega)]
 congr 1
 omega
set_option maxRecDepth 10000 in
theorem uX {p : HP} {bs : List Nat} (hp : Blks p bs) {A : Option Addr} {c i t cl : Nat} (hi : bs[i]? = some t) (hne : ∀ j, j ≠ i → bs[j]? ≠ some t) (hl : bs.length ≤ 100000) :
 Does Tryz.prog G 225 [.slice A bs.length c, .func (.func 226) #[] #[aO cl]].toArray [cK (.slice A bs.length c) bs, blk cl 338 #[aO t], p]
  fun v m => (∃ A' c', v = .slice A' (bs.eraseIdx i).length c') ∧ m = [cK v (bs.eraseIdx i), blk cl 338 #[aO t], p] := by
 have hil := (List.getElem?_eq_some_iff.1 hi).1
 refine Does.body Tryz.func225 Z Z fun E fr hE => ?_
 refine cE (aC .head ?_)
 intro A' c' hA hnil hform hc1 hc2 _
 injection hA with hA _ hcc
 subst hA; subst hcc
 have hc3 : c ≤ 9223372036854775807 := by unfold maxLen at hc2; omega
 obtain ⟨g, rfl⟩ : ∃ g, A = some ⟨g, 0, none⟩ := by
  cases A with
  | none => have := (hnil rfl).1; omega
  | some ad => obtain ⟨g, rfl⟩ := hform ad rfl; exact ⟨g, rfl⟩
 refine At.seq (At.region (L.as Z Z (L.nil (At.then (At.seq (At.region (L.mv Z Z (L.mv Z Z ?_))))))))
 refine L.op Z (ah Z Z Z hE (zC hp hi (fun j hj => hne j (by omega)) hl) (Ent.refl _) ?_)
 rintro v m ⟨rfl, rfl⟩
 refine cE (L.as Z Z (L.nil (At.then (At.seq (At.seq (At.region (L.mv Z Z (L.pure Z (aH (r := false) Z Z (by rw [decide_eq_false_iff_not]; omega)) (L.nil (At.then (aj Z (At.skip (At.then (At.seq (At.seq (At.region (L.mv Z Z (L.pure Z (aS Z Z (dd (by omega))) (L.as Z Z ?_)))))))))))))))))))
 refine L.nil (At.then (At.block ?_))
 refine bk (X := Nat) (fun j => [(6, .int .i64 (j : Nat)), (5, .int .i64 (j - 1 : Nat)), (0, .slice (some ⟨g, 0, none⟩) bs.length c), (1, .func (.func 226) #[] #[aO cl])]) (fun j => row 338 1 (.slice (some ⟨g, 0, none⟩) bs.length c) bs.length (xQ bs i j) :: blk cl 338 #[aO t] :: p :: fr) (fun j => i < j ∧ j ≤ bs.length) (fun j => bs.length - j) (i + 1) (by omega) ⟨rfl, rfl, rfl, rfl, trivial⟩ (by rw [wY bs i hil]; exact Ent.refl _) ?_
 rintro j ⟨hij, hj⟩
 refine At.seq (At.seq (At.region (L.mv Z Z (L.mv Z Z (L.pure Z (aM Z Z) (L.pure Z (bl Z Z Z) (L.nil (At.then ?_))))))))
 refine aE Z (fun c19 => ?_) (fun c19 => ?_)
 ·
  have hlt : j < bs.length := by omega
  obtain ⟨o, ho⟩ : ∃ o, bs[j]? = some o := ⟨bs[j], by simp [hlt]⟩
  have hom := List.mem_of_getElem? ho
  have htm := List.mem_of_getElem? hi
  have hot : o ≠ t := fun h => hne j (by omega) (by rw [ho, h])
  refine At.skip (At.then (At.seq (At.block (At.seq (At.region (L.mv Z Z (L.mv Z Z (L.pure Z (aT (z := 1) Z Z Z Z hlt) (L.val Z (aa (v := aO o) Z Z) (bJ .head (by simpa using Ch hij ho)) (L.as Z Z (L.nil (At.then (At.seq (At.region (L.mv Z Z (L.mv Z Z ?_))))))))))))))))
  refine L.op Z (j6 Z Z Z Z hE (drop1 hp o t cl hom htm) (aP (.tail (.head)) (.tail (.head))) ?_)
  rintro v m ⟨rfl, rfl⟩
  refine aJ (L.pure Z (cg (r := true) Z (by simp [hot])) (L.nil (At.then (aQ Z (At.seq (At.region (L.mv Z Z (L.mv Z Z (L.mv Z Z (L.pure Z (aT (z := 1) Z Z Z Z (by omega : j - 1 < bs.length)) ?_))))))))))
  refine L.op Z (dZ (.tail (.tail (.head))) Z Z Z Z (by omega) ?_)
  rw [show 0 + (j - 1) * 1 = j - 1 by omega, zj hij ho]
  refine L.nil (At.then (At.region (L.mv Z Z (L.pure Z (aS (r := ((j + 1 - 1 : Nat) : Int)) Z Z (by rw [dd (by omega)]; omega)) (L.as Z Z (L.nil (an (At.then (At.region (L.mv Z Z (L.pure Z (aS Z Z (dd (by omega))) (L.as Z Z (L.nil ?_)))))))))))))
  exact At.round (j + 1) (by omega) (by omega) ⟨rfl, rfl, rfl, rfl, trivial⟩ (Ent.refl _)
 ·
  obtain rfl : j = bs.length := by omega
  have hn1 : (bs.eraseIdx i).length = bs.length - 1 := by simp [List.length_eraseIdx, hil]
  have hca : ¬ c = bs.length - 1 := by omega
  refine jx .head (fun h => by cases h) ?_
  intro g' cap cur hg _ hm hcm hs htk
  injection hg with hg _ hcap
  injection hg with hg
  injection hg with hg
  subst hg; subst hcap
  refine At.exit (az (ay (ar (At.then (At.seq (At.region (L.mv Z Z (L.mv Z Z (L.pure Z (Bd (a := bs.length - 1) (d := 1) Z Z Z Z (by omega) hc1 hca (by omega)) ?_)))))))))
  refine L.op Z (za (z := .pointer none) (b := g) (o := bs.length - 1) (c := c - (bs.length - 1)) (cs := cur) Z Z Z Z Z Z (by omega) ?_)
  refine L.nil (At.then (At.seq (At.region (L.mv Z Z (L.mv Z Z (L.pure Z (Be (a := bs.length - 1) Z Z Z Z (by omega)) (L.as Z Z (L.nil (At.then (At.ret ?_))))))))))
  exact aA [_, _, _] rfl Z ⟨⟨some ⟨g, 0, none⟩, c, by rw [hn1]⟩, rfl⟩ (by rw [cK, hn1]; exact cC (by omega) hcm (by simpa using hs) (Bq hs htk (by omega) hil))
end Go.Proofs.YtmeegfamopaljaaGreatDoor

namespace Go.SL
open Go Go.RowKit
section
variable {P : Program} {ts : List (Nat × Value)}
section
variable {y : Operand} {k : IntKind} {t t' : TypeId}
theorem xw {x : Operand} {s : ByteArray} {i : Nat} {b : UInt8} (ht : P.underlying t = some .string) (hx : ev ts x = some (.string s)) (hy : ev ts y = some (.int k (i : Int))) (hv : s[i]? = some b) : Ev P ts (.index t x y) (.int .u8 b.toNat) Any := by
 intro a w _ _ _ _ _ kn _
 simp [execOp, kn.eval hx, kn.eval hy, Instr.index, asIntOf, run_underlying ht, hv]
theorem ny {x : Operand} {a b r : Int} (hx : ev ts x = some (.int k a)) (hy : ev ts y = some (.int k b)) (hr : max a b = r) : Ev P ts (.call { callee := .builtin .max, args := #[x, y], argTypes := #[t, t'] }) (.int k r) Any := by
 intro ac w _ _ _ _ _ kn _
 subst hr
 have : max a b = if b > a then b else a := by split <;> omega
 simp [execOp, resolve, invoke, builtin, Builtin.max_, Builtin.max2, kn.eval hx, kn.eval hy, this]
theorem yB {x : Operand} {a b r : Int} (hx : ev ts x = some (.int k a)) (hy : ev ts y = some (.int k b)) (hr : min a b = r) : Ev P ts (.call { callee := .builtin .min, args := #[x, y], argTypes := #[t, t'] }) (.int k r) Any := by
 intro ac w _ _ _ _ _ kn _
 subst hr
 have : min a b = if b < a then b else a := by split <;> omega
 simp [execOp, resolve, invoke, builtin, Builtin.min_, Builtin.min2, kn.eval hx, kn.eval hy, this]
end
end
end Go.SL
namespace Go.Proofs.YtmeegfamopaljaaGreatDoor
open Go Go.RowKit Go.SL
variable {G : Env → Prop}
def dT (x : Nat) : Nat := if x = 0 then 0 else Nat.log2 x + 1
theorem jW {x : Nat} (k : Nat) (h : 2 ^ k ≤ x) : dT x = k + dT (x / 2 ^ k) := by
 have hp : 0 < 2 ^ k := Nat.two_pow_pos k
 have hx : x ≠ 0 := by omega
 have hq : x / 2 ^ k ≠ 0 := by
  have := Nat.div_pos h hp
  omega
 unfold dT
 rw [if_neg hx, if_neg hq]
 have h1 : Nat.log2 x = k + Nat.log2 (x / 2 ^ k) := by
  rw [Nat.log2_eq_iff hx]
  obtain ⟨h2, h3⟩ := (Nat.log2_eq_iff hq).1 rfl
  constructor
  · rw [Nat.pow_add, Nat.mul_comm]
    exact (Nat.le_div_iff_mul_le hp).1 h2
  · rw [show k + Nat.log2 (x / 2 ^ k) + 1 = (Nat.log2 (x / 2 ^ k) + 1) + k by omega, Nat.pow_add]
    exact (Nat.div_lt_iff_lt_mul hp).1 h3
 omega
def len8 : ByteArray := ⟨((List.range 256).map fun i => UInt8.ofNat (dT i)).toArray⟩
theorem mG {i : Nat} (h : i < 256) : dT i ≤ 8 := by
 unfold dT
 split
 · omega
 · rename_i h0
   have := (Nat.log2_lt h0).2 (show i < 2 ^ 8 by omega)
   omega
theorem AY {i : Nat} (h : i < 256) : len8[i]? = some (UInt8.ofNat (dT i)) := by
 have : len8.data[i]? = some (UInt8.ofNat (dT i)) := by simp [len8, h]
 rw [← this]
 rfl
theorem zr {i : Nat} (h : i < 256) : (UInt8.ofNat (dT i)).toNat = dT i := by
 have := mG h
 simp
 omega
theorem la (x k : Nat) (_hx : x < 18446744073709551616) (hk : k ≤ 64) : ((x : Int)).fdiv (2 ^ min ((k : Int)).toNat IntKind.u64.bits) = ((x / 2 ^ k : Nat) : Int) := by
 have h1 : min ((k : Int)).toNat IntKind.u64.bits = k := by
  show min ((k : Int)).toNat 64 = k
  omega
 rw [h1, Int.fdiv_eq_ediv_of_nonneg _ (Int.le_of_lt (Int.pow_pos (by omega)))]
 simp
set_option maxRecDepth 10000 in
theorem uC (x : Nat) (hx : x < 18446744073709551616) : Does Tryz.prog G 227 [.int .u64 x].toArray [] fun v m => v = .int .i64 (dT x) ∧ m = [] := by
 refine Does.body Tryz.func227 Z Z fun E fr hE => ?_
 refine aL (At.seq (At.region (L.as Z Z (L.nil (At.then ?_)))))
 refine At.seq (At.cut (X := Nat × Nat) (fun y => [(0, .int .u64 y.1), (2, .int .i64 y.2)]) (fun _ => fr) (fun y => y.1 < 2 ^ 32 ∧ dT x = y.2 + dT y.1 ∧ y.2 ≤ 32) ?_ ?_)
 ·
  refine At.seq (At.region (L.mv Z Z (L.pure Z (lV Z Z Z) (L.nil (At.then ?_)))))
  refine aE Z (fun c4 => ?_) (fun c4 => ?_)
  ·
   refine At.seq (At.region (L.mv Z Z (L.pure Z (eZ (r := ((x / 2 ^ 32 : Nat) : Int)) Z Z (by omega) (la x 32 hx (by omega))) (L.as Z Z (L.nil (At.then (At.region (L.as Z Z (L.nil ?_)))))))))
   exact bb (x / 2 ^ 32, 32) ⟨by simp only; omega, jW 32 (by omega), by simp⟩ ⟨rfl, rfl, trivial⟩ (Ent.refl _)
  ·
   refine At.skip ?_
   exact bb (x, 0) ⟨by simp only; omega, by simp, by simp⟩ ⟨rfl, rfl, trivial⟩ (Ent.refl _)
 rintro ⟨x1, n1⟩ ⟨h11, h12, h13⟩
 simp only at h11 h12 h13 ⊢
 refine At.seq (At.cut (X := Nat × Nat) (fun y => [(0, .int .u64 y.1), (2, .int .i64 y.2)]) (fun _ => fr) (fun y => y.1 < 2 ^ 16 ∧ dT x = y.2 + dT y.1 ∧ y.2 ≤ 48) ?_ ?_)
 ·
  refine At.seq (At.region (L.mv Z Z (L.pure Z (lV Z Z Z) (L.nil (At.then ?_)))))
  refine aE Z (fun c8 => ?_) (fun c8 => ?_)
  ·
   refine At.seq (At.region (L.mv Z Z (L.pure Z (eZ (r := ((x1 / 2 ^ 16 : Nat) : Int)) Z Z (by omega) (la x1 16 (by omega) (by omega))) (L.as Z Z (L.nil (At.then (At.region (L.mv Z Z (L.pure Z (aS (r := ((n1 + 16 : Nat) : Int)) Z Z (by rw [dd (by omega)]; omega)) (L.as Z Z (L.nil ?_)))))))))))
   exact bb (x1 / 2 ^ 16, n1 + 16) ⟨by simp only; omega, by rw [h12, jW (x := x1) 16 (by omega)]; simp only; omega, by simp only; omega⟩ ⟨rfl, rfl, trivial⟩ (Ent.refl _)
  ·
   refine At.skip ?_
   exact bb (x1, n1) ⟨by simp only; omega, h12, by simp only; omega⟩ ⟨rfl, rfl, trivial⟩ (Ent.refl _)
 rintro ⟨x2, n2⟩ ⟨h21, h22, h23⟩
 simp only at h21 h22 h23 ⊢
 refine At.seq (At.cut (X := Nat × Nat) (fun y => [(0, .int .u64 y.1), (2, .int .i64 y.2)]) (fun _ => fr) (fun y => y.1 < 256 ∧ dT x = y.2 + dT y.1 ∧ y.2 ≤ 56) ?_ ?_)
 ·
  refine At.seq (At.region (L.mv Z Z (L.pure Z (lV Z Z Z) (L.nil (At.then ?_)))))
  refine aE Z (fun c14 => ?_) (fun c14 => ?_)
  ·
   refine At.seq (At.region (L.mv Z Z (L.pure Z (eZ (r := ((x2 / 2 ^ 8 : Nat) : Int)) Z Z (by omega) (la x2 8 (by omega) (by omega))) (L.as Z Z (L.nil (At.then (At.region (L.mv Z Z (L.pure Z (aS (r := ((n2 + 8 : Nat) : Int)) Z Z (by rw [dd (by omega)]; omega)) (L.as Z Z (L.nil ?_)))))))))))
   exact bb (x2 / 2 ^ 8, n2 + 8) ⟨by simp only; omega, by rw [h22, jW (x := x2) 8 (by omega)]; simp only; omega, by simp only; omega⟩ ⟨rfl, rfl, trivial⟩ (Ent.refl _)
  ·
   refine At.skip ?_
   exact bb (x2, n2) ⟨by simp only; omega, h22, by simp only; omega⟩ ⟨rfl, rfl, trivial⟩ (Ent.refl _)
 rintro ⟨x3, n3⟩ ⟨h31, h32, h33⟩
 simp only at h31 h32 h33 ⊢
 have hsm := mG h31
 refine At.seq (At.region (L.mv Z Z (L.mv Z Z (L.pure Z (bz (r := (x3 : Int)) Z Z Z (wu8 (by omega))) (L.pure Z (xw (s := len8) Z (by kernel_rfl) Z (AY h31)) ?_)))))
 refine L.pure Z (bz (r := (dT x3 : Int)) Z Z Z (by rw [zr h31]; exact dd (by omega))) ?_
 exact L.pure Z (aS (r := ((dT x : Nat) : Int)) Z Z (by rw [dd (by omega)]; omega)) (L.as Z Z (L.nil (At.then (At.ret (aA [] rfl Z ⟨rfl, rfl⟩ (Ent.refl _))))))
end Go.Proofs.YtmeegfamopaljaaGreatDoor

namespace Go.Proofs.YtmeegfamopaljaaGreatDoor
open Go Go.RowKit Go.SL
open FK (dQ ck bM)
def tD (n : Nat) (f : Nat → Value) : Array Value := ((List.range n).map f).toArray
theorem BU {n : Nat} (f : Nat → Value) {i : Nat} (h : i < n) : (tD n f)[i]? = some (f i) := by simp [tD, h]
theorem ew (n : Nat) (f : Nat → Value) : (tD n f).size = n := by simp [tD]
theorem wg {n : Nat} {f g : Nat → Value} (h : ∀ i, i < n → f i = g i) : tD n f = tD n g := by
 unfold tD
 congr 1
 exact List.map_congr_left fun i hi => h i (List.mem_range.1 hi)
theorem An (n : Nat) (f : Nat → Value) (i : Nat) (v : Value) : (tD n f).setIfInBounds i v = tD n (dQ f i v) := by
 apply Array.ext
 · simp [tD]
 · intro j h1 h2
   simp only [tD, Array.size_setIfInBounds, List.size_toArray, List.length_map, List.length_range] at h1
   by_cases hj : i = j
   · subst hj
     simp [tD, dQ]
   · rw [Array.getElem_setIfInBounds_ne (by simpa [tD] using h1) hj]
     simp [tD, dQ, Ne.symm hj]
attribute [irreducible] tD
abbrev wc (f : Nat → Value) : Array Value := tD 718 f
theorem pd (f : Nat → Value) {i : Nat} (h : i < 718) : (wc f)[i]? = some (f i) := BU f h
theorem lj {f g : Nat → Value} (h : ∀ i, i < 718 → f i = g i) : wc f = wc g := wg h
theorem iE (f : Nat → Value) (i : Nat) (v : Value) : (wc f).setIfInBounds i v = wc (dQ f i v) := An 718 f i v
def dB (now seq : Nat) (sl : Nat → Value) (us : Nat → Nat) (mp : Nat) : Nat → Value := fun i =>
 if i = 0 then .int .u64 now else if i = 1 then .int .u64 seq else if i < 706 then sl (i - 2) else if i < 717 then .int .u64 (us (i - 706)) else .map (some mp)
theorem lW (now seq : Nat) (sl : Nat → Value) (us : Nat → Nat) (mp n' : Nat) : wc (dQ (dB now seq sl us mp) 0 (.int .u64 n')) = wc (dB n' seq sl us mp) := lj fun i _ => by
 unfold dQ dB
 by_cases h : i = 0 <;> simp [h]
theorem we (now seq : Nat) (sl : Nat → Value) (us : Nat → Nat) (mp n' : Nat) : wc (dQ (dB now seq sl us mp) 1 (.int .u64 n')) = wc (dB now n' sl us mp) := lj fun i _ => by
 unfold dQ dB
 by_cases h : i = 1
 · simp [h]
 · simp [h]
theorem kM (now seq : Nat) (sl : Nat → Value) (us : Nat → Nat) (mp : Nat) {k : Nat} (hk : k < 704) (v : Value) : wc (dQ (dB now seq sl us mp) (2 + k) v) = wc (dB now seq (dQ sl k v) us mp) := lj fun i _ => by
 unfold dB
 by_cases h : i = 2 + k
 · subst h
   rw [ck, if_neg (by omega), if_neg (by omega), if_pos (by omega), show 2 + k - 2 = k by omega, ck]
 · rw [bM _ _ h]
   split
   · rfl
   · split
     · rfl
     · split
       · rw [bM _ _ (by omega)]
       · rfl
theorem kL (now seq : Nat) (sl : Nat → Value) (us : Nat → Nat) (mp : Nat) {k : Nat} (hk : k < 11) (n' : Nat) : wc (dQ (dB now seq sl us mp) (706 + k) (.int .u64 n')) = wc (dB now seq sl (dQ us k n') mp) := lj fun i _ => by
 unfold dB
 by_cases h : i = 706 + k
 · subst h
   rw [ck, if_neg (by omega), if_neg (by omega), if_neg (by omega), if_pos (by omega), show 706 + k - 706 = k by omega, ck]
 · rw [bM _ _ h]
   split
   · rfl
   · split
     · rfl
     · split
       · rfl
       · split
         · rw [bM _ _ (by omega)]
         · rfl
theorem fU (now seq : Nat) (sl : Nat → Value) (us : Nat → Nat) (mp : Nat) : (wc (dB now seq sl us mp))[0]? = some (.int .u64 now) := pd _ (by omega)
theorem lX (now seq : Nat) (sl : Nat → Value) (us : Nat → Nat) (mp : Nat) : (wc (dB now seq sl us mp))[1]? = some (.int .u64 seq) := pd _ (by omega)
theorem gM (now seq : Nat) (sl : Nat → Value) (us : Nat → Nat) (mp : Nat) {k : Nat} (hk : k < 704) : (wc (dB now seq sl us mp))[2 + k]? = some (sl k) := by
 rw [pd _ (by omega)]
 unfold dB
 rw [if_neg (by omega), if_neg (by omega), if_pos (by omega), show 2 + k - 2 = k by omega]
theorem j9 (now seq : Nat) (sl : Nat → Value) (us : Nat → Nat) (mp : Nat) {k : Nat} (hk : k < 11) : (wc (dB now seq sl us mp))[706 + k]? = some (.int .u64 (us k)) := by
 rw [pd _ (by omega)]
 unfold dB
 rw [if_neg (by omega), if_neg (by omega), if_neg (by omega), if_pos (by omega), show 706 + k - 706 = k by omega]
theorem gN (now seq : Nat) (sl : Nat → Value) (us : Nat → Nat) (mp : Nat) : (wc (dB now seq sl us mp))[717]? = some (.map (some mp)) := pd _ (by omega)
def jG (n : Nat) (sl : Nat → Value) (bs : Nat → List Nat) : List HP := (List.range n).map fun i => cK (sl i) (bs i)
abbrev kB (sl : Nat → Value) (bs : Nat → List Nat) : List HP := jG 704 sl bs
theorem yP {n : Nat} (sl : Nat → Value) (bs : Nat → List Nat) {i : Nat} (h : i < n) : (jG n sl bs)[i]? = some (cK (sl i) (bs i)) := by simp [jG, h]
theorem qN (n : Nat) (sl : Nat → Value) (bs : Nat → List Nat) : (jG n sl bs).length = n := by simp [jG]
theorem wx {n : Nat} (sl : Nat → Value) (bs : Nat → List Nat) (i : Nat) (v : Value) (b : List Nat) : jG n (dQ sl i v) (dQ bs i b) = (jG n sl bs).set i (cK v b) := by
 unfold jG
 apply List.ext_getElem
 · simp
 · intro j h1 h2
   simp only [List.getElem_map, List.getElem_range, List.getElem_set]
   by_cases hj : i = j
   · subst hj
     simp [dQ]
   · simp [dQ, hj, Ne.symm hj]
attribute [irreducible] jG
section
variable {bs : Nat → List Nat} {sl : Nat → Value} {fr : List HP}
def kA (sl : Nat → Value) (bs : Nat → List Nat) : HP := HP.all (kB sl bs)
def hY (sl : Nat → Value) (bs : Nat → List Nat) (i : Nat) : HP := HP.all ((kB sl bs).eraseIdx i)
theorem Ent.pick : ∀ {l : List HP} {i : Nat} {p : HP}, l[i]? = some p → Ent l (p :: l.eraseIdx i)
 | [], _, _, h => by simp at h
 | q :: l, 0, p, h => by
  simp at h; subst h
  exact Ent.refl _
 | q :: l, i + 1, p, h => (Ent.cons (Ent.pick (l := l) (by simpa using h))).trans (Ent.perm (List.Perm.swap _ _ _))
theorem oL : ∀ (l : List HP) (i : Nat) (p : HP), i < l.length → Ent (p :: l.eraseIdx i) (l.set i p)
 | [], _, _, h => by simp at h
 | q :: l, 0, p, _ => Ent.refl _
 | q :: l, i + 1, p, h => (Ent.perm (List.Perm.swap _ _ _)).trans (Ent.cons (oL l i p (by simpa using h)))
theorem jm {i : Nat} (hi : i < 704) : Ent (kA sl bs :: fr) (cK (sl i) (bs i) :: hY sl bs i :: fr) :=
 (Ent.unall (m := kB sl bs)).trans (((Ent.pick (yP sl bs hi)).append fr).trans (Ent.cons (Ent.all (m := (kB sl bs).eraseIdx i))))
theorem gh {i : Nat} (hi : i < 704) {v : Value} {b : List Nat} : Ent (cK v b :: hY sl bs i :: fr) (kA (dQ sl i v) (dQ bs i b) :: fr) := by
 have h1 := (oL (kB sl bs) i (cK v b) (by rw [qN]; exact hi)).append fr
 have e : (kB sl bs).set i (cK v b) = kB (dQ sl i v) (dQ bs i b) := (wx sl bs i v b).symm
 rw [e] at h1
 exact ((Ent.cons (Ent.unall (m := (kB sl bs).eraseIdx i))).trans h1).trans (Ent.all (m := kB (dQ sl i v) (dQ bs i b)))
end
end Go.Proofs.YtmeegfamopaljaaGreatDoor

namespace Go.SL
open Go Go.RowKit
section
variable {P : Program} {ts : List (Nat × Value)}
theorem dC {t e : TypeId} {x y : Operand} {k : IntKind} {i b o o' n z : Nat} (ht : P.underlying t = some (.array n e)) (hz : ce P e z) (hx : ev ts x = some (.pointer (some ⟨b, o, none⟩))) (hy : ev ts y = some (.int k (i : Int))) (h1 : i < n) (ho : o + i * z = o') :
 Ev P ts (.indexAddr t x y) (.pointer (some ⟨b, o', none⟩)) Any := by
 have := Cw (P := P) ht hz hx hy (by omega) (by omega)
 subst ho
 simpa using this
end
end Go.SL
namespace Go.Proofs.YtmeegfamopaljaaGreatDoor
open Go Go.RowKit Go.SL
open FK (dQ ck bM)
variable {G : Env → Prop}
theorem wu64 {a : Nat} (h : a < 18446744073709551616) : IntKind.u64.wrap (a : Int) = (a : Int) := by rw [kE]; omega
theorem Al {a b : Nat} (ha : a < 18446744073709551616) (hb : b < 18446744073709551616) : bits .xor .u64 (a : Int) (b : Int) = ((a ^^^ b : Nat) : Int) := by
 have h1 : a ^^^ b < 18446744073709551616 := Nat.xor_lt_two_pow (n := 64) ha hb
 have e : bits .xor .u64 (a : Int) (b : Int) = IntKind.u64.wrap (((BitVec.ofInt 64 (a : Int)) ^^^ (BitVec.ofInt 64 (b : Int))).toNat : Int) := rfl
 rw [e, BitVec.toNat_xor, BitVec.ofInt_natCast, BitVec.ofInt_natCast, BitVec.toNat_ofNat, BitVec.toNat_ofNat, Nat.mod_eq_of_lt ha, Nat.mod_eq_of_lt hb, wu64 h1]
theorem yp {a b : Nat} (ha : a < 18446744073709551616) (hb : b < 18446744073709551616) : bits .or .u64 (a : Int) (b : Int) = ((a ||| b : Nat) : Int) := by
 have h1 : a ||| b < 18446744073709551616 := Nat.or_lt_two_pow (n := 64) ha hb
 have e : bits .or .u64 (a : Int) (b : Int) = IntKind.u64.wrap (((BitVec.ofInt 64 (a : Int)) ||| (BitVec.ofInt 64 (b : Int))).toNat : Int) := rfl
 rw [e, BitVec.toNat_or, BitVec.ofInt_natCast, BitVec.ofInt_natCast, BitVec.toNat_ofNat, BitVec.toNat_ofNat, Nat.mod_eq_of_lt ha, Nat.mod_eq_of_lt hb, wu64 h1]
theorem vT {a s : Nat} (ha : a < 18446744073709551616) (hs : s < 64) : bits .andNot .u64 (a : Int) ((2 ^ s : Nat) : Int) = ((FK.clr a s : Nat) : Int) := by
 have hb : (2 : Nat) ^ s < 18446744073709551616 := Nat.pow_lt_pow_right (a := 2) (m := s) (n := 64) (by omega) hs
 have e : bits .andNot .u64 (a : Int) ((2 ^ s : Nat) : Int) = IntKind.u64.wrap (((BitVec.ofInt 64 (a : Int)) &&& ~~~ (BitVec.ofInt 64 ((2 ^ s : Nat) : Int))).toNat : Int) := rfl
 have h2 : a &&& (2 ^ 64 - 1 - 2 ^ s) = FK.clr a s := by
  unfold FK.clr
  congr 1
  omega
 rw [e, BitVec.toNat_and, BitVec.toNat_not, BitVec.ofInt_natCast, BitVec.ofInt_natCast, BitVec.toNat_ofNat, BitVec.toNat_ofNat, Nat.mod_eq_of_lt ha, Nat.mod_eq_of_lt hb, h2, wu64 (FK.clr_lt ha)]
theorem qt {s : Nat} (hs : s < 64) : IntKind.u64.wrap ((1 : Int) * 2 ^ min ((s : Int)).toNat IntKind.u64.bits) = ((2 ^ s : Nat) : Int) := by
 have hb : (2 : Nat) ^ s < 18446744073709551616 := Nat.pow_lt_pow_right (a := 2) (m := s) (n := 64) (by omega) hs
 have h1 : min ((s : Int)).toNat IntKind.u64.bits = s := by
  show min ((s : Int)).toNat 64 = s
  omega
 rw [h1, Int.one_mul, show ((2 : Int) ^ s) = ((2 ^ s : Nat) : Int) by simp, wu64 hb]
theorem AX (x : Nat) : (dT x - 1) / 6 = Nat.log2 x / 6 := by
 unfold dT
 split
 · rename_i h; subst h; rfl
 · rw [Nat.add_sub_cancel]
theorem zt {x : Nat} (hx : x < 18446744073709551616) : dT x ≤ 64 := by
 unfold dT
 split
 · omega
 · rename_i h0
   have := (Nat.log2_lt h0).2 (show x < 2 ^ 64 from hx)
   omega
abbrev Ah (p : FK.Pl) : Array Value := #[.int .u64 p.run, .int .i64 p.node, .int .i64 p.what]
abbrev gE (p : FK.Pl) : Value := .agg (Ah p)
abbrev eh (t : FK.Tmr) : HP := blk t.blk 340 #[.int .u64 t.key.run, .int .i64 t.key.node, .int .i64 t.key.what, .int .u64 t.due, .int .u64 t.seq, .int .i64 t.lvl, .int .i64 t.slot]
def iB (l : List FK.Tmr) : HP := HP.all (l.map eh)
def gF (l : List FK.Tmr) : List (FK.Pl × Value) := l.map fun t => (t.key, aO t.blk)
abbrev BO (w : Nat) (S : FK.WS) (sl : Nat → Value) (mp : Nat) : HP := blk w 337 (wc (dB S.now S.seq sl S.us mp))
section
variable {a b l : List FK.Tmr} {r : List HP} {t : FK.Tmr} {S : FK.WS} {bs : List Nat}
def bD (w : Nat) (S : FK.WS) : HP := HP.ex fun p : (Nat → Value) × Nat => HP.all [BO w S p.1 p.2, kA p.1 S.bs, iB S.tms, bP gE p.2 (gF S.tms)]
theorem eT {E : Env} {n : Nat} {D : List Deferred} {ts : List (Nat × Value)} {l : List HP} {K : Act → World → Prop} {w : Nat} (s : Sel (bD w S) l r)
 (h : ∀ sl mp, At E n D ts (BO w S sl mp :: kA sl S.bs :: iB S.tms :: bP gE mp (gF S.tms) :: r) K) : At E n D ts l K := by
 exact At.ex s fun p => (bq (h p.1 p.2))
theorem cu {w : Nat} {sl : Nat → Value} {mp : Nat} : Ent (BO w S sl mp :: kA sl S.bs :: iB S.tms :: bP gE mp (gF S.tms) :: r) (bD w S :: r) :=
 (Ent.all (m := [BO w S sl mp, kA sl S.bs, iB S.tms, bP gE mp (gF S.tms)])).trans (Ent.ex (f := fun p : (Nat → Value) × Nat => HP.all [BO w S p.1 p.2, kA p.1 S.bs, iB S.tms, bP gE p.2 (gF S.tms)]) (sl, mp))
theorem tmrs_open : Ent (iB (a ++ t :: b) :: r) (eh t :: iB (a ++ b) :: r) := by
 refine (Ent.unall (m := (a ++ t :: b).map eh)).trans ?_
 have h : ((a ++ t :: b).map eh ++ r).Perm (eh t :: ((a ++ b).map eh ++ r)) := by
  have : ((a ++ t :: b).map eh).Perm (eh t :: (a ++ b).map eh) := by
   have h0 := (List.perm_middle (a := t) (l₁ := a) (l₂ := b)).map eh
   rwa [List.map_cons] at h0
  exact this.append_right r
 exact (Ent.perm h).trans (Ent.cons (Ent.all (m := (a ++ b).map eh)))
theorem tmrs_close : Ent (eh t :: iB (a ++ b) :: r) (iB (a ++ t :: b) :: r) := by
 refine (Ent.cons (Ent.unall (m := (a ++ b).map eh))).trans ?_
 have h : (eh t :: ((a ++ b).map eh ++ r)).Perm ((a ++ t :: b).map eh ++ r) := by
  have : (eh t :: (a ++ b).map eh).Perm ((a ++ t :: b).map eh) := by
   have h0 := ((List.perm_middle (a := t) (l₁ := a) (l₂ := b)).map eh).symm
   rwa [List.map_cons] at h0
  exact this.append_right r
 exact (Ent.perm h).trans (Ent.all (m := (a ++ t :: b).map eh))
theorem ll {w : World} {F : Nat → Prop} (h : (iB l).sat w F) (ht : t ∈ l) : w.heap[t.blk]? = some (.cells #[.int .u64 t.key.run, .int .i64 t.key.node, .int .i64 t.key.what, .int .u64 t.due, .int .u64 t.seq, .int .i64 t.lvl, .int .i64 t.slot] 340) :=
 (Star.mem h (List.mem_map_of_mem ht)).2
theorem qd {E : Env} {m : List HP} {i : Nat} {v : Value} (s : Sel (iB l) m r) (ht : t ∈ l) (hv : (#[Value.int .u64 t.key.run, .int .i64 t.key.node, .int .i64 t.key.what, .int .u64 t.due, .int .u64 t.seq, .int .i64 t.lvl, .int .i64 t.slot])[i]? = some v) : ∀ w, Holds E w m → bK ⟨t.blk, i, none⟩ v w := fun w hw => by
 obtain ⟨F1, _, _, _, _, hp, _⟩ := (hw.sel s).star
 have := ll hp ht
 simp [bK, World.cell?, this, hv]
def Ak (l : List FK.Tmr) (b : Nat) : Nat := ((l.find? (·.blk == b)).map (·.seq)).getD 0
theorem pp {b : Nat} (h : ∃ u ∈ l, u.blk = b) : ∃ u ∈ l, u.blk = b ∧ Ak l b = u.seq := by
 obtain ⟨u, hu, e⟩ := h
 cases hf : l.find? (·.blk == b) with
 | none =>
  have := List.find?_eq_none.1 hf u hu
  simp [e] at this
 | some v =>
  have h1 := List.find?_some hf
  exact ⟨v, List.mem_of_find?_eq_some hf, by simpa using h1, by simp [Ak, hf]⟩
theorem tY {n : Nat} (h : ∀ b ∈ bs, ∃ u ∈ l, u.blk = b) (hlt : ∀ u ∈ l, u.blk ∈ bs → u.seq < n) : Below' (iB l) bs (Ak l) n := by
 constructor
 · intro b hb
   obtain ⟨u, hu, e, hs⟩ := pp (h b hb)
   rw [hs]
   exact hlt u hu (e ▸ hb)
 · intro w F hs b hb
   obtain ⟨u, hu, e, hq⟩ := pp (h b hb)
   have := ll hs hu
   rw [hq, ← e]
   simp [World.cell?, this]
theorem wq (h : ∀ b ∈ bs, ∃ u ∈ l, u.blk = b) : Blks (iB l) bs := by
 intro w F hs b hb
 obtain ⟨u, hu, e⟩ := h b hb
 have := ll hs hu
 rw [e] at this
 exact ⟨_, _, this⟩
theorem nI {un : List Nat} (h : FK.Inv S un) (hl : S.tms.length ≤ 100000) {i : Nat} (hi : i < 704) : (S.bs i).length ≤ 100000 := by
 rw [h.slot i hi, List.length_map]
 exact Nat.le_trans (List.length_filter_le _ _) hl
end
end Go.Proofs.YtmeegfamopaljaaGreatDoor

namespace Go.Proofs.YtmeegfamopaljaaGreatDoor
open Go Go.RowKit Go.SL Go.Extern
structure Good (E : Env) : Prop where
 tab : ∀ w, E.is w → Tab w
 err : ∀ w, E.is w → w.cell? ⟨0, 0, none⟩ = some (.iface 314 (.agg #[.pointer (some ⟨Tryz.prog.globals.size, 109, none⟩)]))
 syn : ∀ w, E.is w → ∃ t p, w.cell? ⟨3, 0, none⟩ = some (.iface t p)
 pow : ∀ w, E.is w → Lib.TabIs Tryz.prog w "internal/strconv.uint64pow10" .u64 Lib.pow10Tab
section
variable {args : Array Value} {w w' : World} {v : Value}
noncomputable abbrev cN (t : TypeId) : Value := .pointer (some ⟨Tryz.prog.globals.size, t, none⟩)
noncomputable abbrev rt (t : TypeId) : Value := .iface 314 (.agg #[cN t])
noncomputable abbrev rv (t : TypeId) (b k : Nat) : Value := .agg #[cN t, .pointer (some ⟨b, 0, none⟩), .int .u64 k]
theorem ez {f : FuncId} {fn : Func} {e : Array Value → Sem Value} (hf : Tryz.prog.funcs[f]? = some fn) (hname : (fn.name == "runtime.NumGoroutine") = false) (hb : fn.body.isNone = true) (hn : Extern.findNext fn = none) (he : Extern.find fn = some e)
 (h : (e args).run Tryz.prog w = .ok v w') : (callFunc f args).run Tryz.prog w = .ok (.value v) w' := by
 rw [run_callFunc_extern hf hname hb hn he, h]; rfl
theorem pg (h : Value) (w : World) : (Go.method (Tryz.prog.types.size + Made.depth) 314 (.agg #[h]) "Kind").run Tryz.prog w = .ok (322, h) w := by kernel_rfl
theorem x7 (h : Value) (w : World) : (Go.method (Tryz.prog.types.size + Made.depth) 314 (.agg #[h]) "Elem").run Tryz.prog w = .ok (361, .agg #[h]) w := by kernel_rfl
theorem jV (h : Value) (w : World) : (Go.method (Tryz.prog.types.size + Made.depth) 314 (.agg #[h]) "Implements").run Tryz.prog w = .ok (362, .agg #[h]) w := by kernel_rfl
theorem iH (h : Value) (w : World) : (Go.method (Tryz.prog.types.size + Made.depth) 314 (.agg #[h]) "AssignableTo").run Tryz.prog w = .ok (359, .agg #[h]) w := by kernel_rfl
theorem mF (h : Value) (w : World) : (Go.method (Tryz.prog.types.size + Made.depth) 314 (.agg #[h]) "Comparable").run Tryz.prog w = .ok (360, .agg #[h]) w := by kernel_rfl
theorem AU (p : Addr) (w : World) : (Go.method (Tryz.prog.types.size + Made.depth) 159 (.pointer (some p)) "Unwrap").run Tryz.prog w = .ok (353, .pointer (some p)) w := by kernel_rfl
theorem vj (h : ((fun args => ReflectliteValue.unpack (args.getD 0 (.tuple #[]))) args).run Tryz.prog w = .ok v w') : (callFunc 144 args).run Tryz.prog w = .ok (.value v) w' :=
 ez (e := (fun args => ReflectliteValue.unpack (args.getD 0 (.tuple #[])))) Tryz.func144 (by kernel_rfl) (by kernel_rfl) (by kernel_rfl) (by kernel_rfl) h
theorem pm (t : Nat) (w : World) : (callFunc 144 #[.iface 161 (.pointer (some ⟨t, 0, none⟩))]).run Tryz.prog w = .ok (.value (rv 161 w.heap.size 150)) (w.alloc (.cells #[.pointer (some ⟨t, 0, none⟩)] 161)) := vj (by kernel_rfl)
theorem yI (e : Addr) (w : World) : (callFunc 144 #[.iface 159 (.pointer (some e))]).run Tryz.prog w = .ok (.value (rv 159 w.heap.size 150)) (w.alloc (.cells #[.pointer (some e)] 159)) := vj (by kernel_rfl)
theorem BK (h : ((ReflectliteValue.methodAny (ReflectliteValue.valueError "reflectlite.Value.Type" 0) (fun t _ _ _ => ReflectliteType.toType t)) args).run Tryz.prog w = .ok v w') : (callFunc 145 args).run Tryz.prog w = .ok (.value v) w' :=
 ez (e := (ReflectliteValue.methodAny (ReflectliteValue.valueError "reflectlite.Value.Type" 0) (fun t _ _ _ => ReflectliteType.toType t))) Tryz.func145 (by kernel_rfl) (by kernel_rfl) (by kernel_rfl) (by kernel_rfl) h
theorem yh (b : Nat) (w : World) : (callFunc 145 #[rv 161 b 150]).run Tryz.prog w = .ok (.value (rt 161)) w := BK (by kernel_rfl)
theorem vi (h : ((ReflectliteType.abiMethod fun t => Functor.map (fun a : Nat => Value.int IntKind.u8 (a : Int)) (Rtype.kind t)) args).run Tryz.prog w = .ok v w') : (callFunc 322 args).run Tryz.prog w = .ok (.value v) w' :=
 ez (e := (ReflectliteType.abiMethod fun t => Functor.map (fun a : Nat => Value.int IntKind.u8 (a : Int)) (Rtype.kind t))) Tryz.func322 (by kernel_rfl) (by kernel_rfl) (by kernel_rfl) (by kernel_rfl) h
theorem yu (w : World) : (callFunc 322 #[cN 161]).run Tryz.prog w = .ok (.value (.int .u8 22)) w := vi (by kernel_rfl)
theorem BG (w : World) : (callFunc 322 #[cN 159]).run Tryz.prog w = .ok (.value (.int .u8 22)) w := vi (by kernel_rfl)
theorem BJ (h : ((ReflectliteType.method ReflectliteType.elem) args).run Tryz.prog w = .ok v w') : (callFunc 361 args).run Tryz.prog w = .ok (.value v) w' :=
 ez (e := (ReflectliteType.method ReflectliteType.elem)) Tryz.func361 (by kernel_rfl) (by kernel_rfl) (by kernel_rfl) (by kernel_rfl) h
theorem yC (w : World) : (callFunc 361 #[.agg #[cN 161]]).run Tryz.prog w = .ok (.value (rt 159)) w := BJ (by kernel_rfl)
theorem BI (h : ((ReflectliteType.relation "Implements" ReflectliteType.implements_) args).run Tryz.prog w = .ok v w') : (callFunc 362 args).run Tryz.prog w = .ok (.value v) w' :=
 ez (e := (ReflectliteType.relation "Implements" ReflectliteType.implements_)) Tryz.func362 (by kernel_rfl) (by kernel_rfl) (by kernel_rfl) (by kernel_rfl) h
theorem mI (w : World) : (callFunc 362 #[.agg #[cN 159], rt 109]).run Tryz.prog w = .ok (.value (.bool true)) w := BI (by kernel_rfl)
theorem BH (h : (ReflectliteType.typeOf args).run Tryz.prog w = .ok v w') : (callFunc 148 args).run Tryz.prog w = .ok (.value v) w' :=
 ez (e := ReflectliteType.typeOf) Tryz.func148 (by kernel_rfl) (by kernel_rfl) (by kernel_rfl) (by kernel_rfl) h
theorem As (v : Value) (w : World) : (callFunc 148 #[.iface 159 v]).run Tryz.prog w = .ok (.value (rt 159)) w := BH (by kernel_rfl)
theorem x9 (h : ((ReflectliteType.relation "AssignableTo" ReflectliteType.assignableTo) args).run Tryz.prog w = .ok v w') : (callFunc 359 args).run Tryz.prog w = .ok (.value v) w' :=
 ez (e := (ReflectliteType.relation "AssignableTo" ReflectliteType.assignableTo)) Tryz.func359 (by kernel_rfl) (by kernel_rfl) (by kernel_rfl) (by kernel_rfl) h
theorem tA (w : World) : (callFunc 359 #[.agg #[cN 159], rt 159]).run Tryz.prog w = .ok (.value (.bool true)) w := x9 (by kernel_rfl)
theorem find7 (h : ((ReflectliteType.method fun t => do Rtype.noPackHeld "Comparable" t; pure (.bool (← typeInfo t).comparable)) args).run Tryz.prog w = .ok v w') : (callFunc 360 args).run Tryz.prog w = .ok (.value v) w' :=
 ez (e := (ReflectliteType.method fun t => do Rtype.noPackHeld "Comparable" t; pure (.bool (← typeInfo t).comparable))) Tryz.func360 (by kernel_rfl) (by kernel_rfl) (by kernel_rfl) (by kernel_rfl) h
theorem wj (t : Nat) (w : World) : (callFunc 144 #[.iface 165 (.pointer (some ⟨t, 0, none⟩))]).run Tryz.prog w = .ok (.value (rv 165 w.heap.size 150)) (w.alloc (.cells #[.pointer (some ⟨t, 0, none⟩)] 165)) := vj (by kernel_rfl)
theorem yH (x : Int) (w : World) : (callFunc 144 #[.iface 48 (.int .i64 x)]).run Tryz.prog w = .ok (.value (rv 48 w.heap.size 130)) (w.alloc (.cells #[.int .i64 x] 48)) := vj (by kernel_rfl)
theorem BW (b : Nat) (w : World) : (callFunc 145 #[rv 165 b 150]).run Tryz.prog w = .ok (.value (rt 165)) w := BK (by kernel_rfl)
theorem Cl (w : World) : (callFunc 322 #[cN 165]).run Tryz.prog w = .ok (.value (.int .u8 22)) w := vi (by kernel_rfl)
theorem kindN (w : World) : (callFunc 322 #[cN 48]).run Tryz.prog w = .ok (.value (.int .u8 2)) w := vi (by kernel_rfl)
theorem CA (w : World) : (callFunc 361 #[.agg #[cN 165]]).run Tryz.prog w = .ok (.value (rt 48)) w := BJ (by kernel_rfl)
theorem sQ (w : World) : (callFunc 362 #[.agg #[cN 48], rt 109]).run Tryz.prog w = .ok (.value (.bool true)) w := BI (by kernel_rfl)
theorem m3 (v : Value) (w : World) : (callFunc 148 #[.iface 48 v]).run Tryz.prog w = .ok (.value (rt 48)) w := BH (by kernel_rfl)
theorem tz (w : World) : (callFunc 359 #[.agg #[cN 48], rt 48]).run Tryz.prog w = .ok (.value (.bool true)) w := x9 (by kernel_rfl)
theorem mT (w : World) : (callFunc 360 #[.agg #[cN 48]]).run Tryz.prog w = .ok (.value (.bool true)) w := find7 (by kernel_rfl)
theorem re (w : World) : (callFunc 359 #[.agg #[cN 48], rt 159]).run Tryz.prog w = .ok (.value (.bool false)) w := x9 (by kernel_rfl)
theorem rlm (z : Sem Value) (f : TypeId → Addr → Nat → Nat → Sem Value) (v : Value) :
 ReflectliteValue.method z f #[v] = (do match ← ReflectliteValue.parts v with | none => z | some (t, a, fl) => f t a fl (fl % 32)) := rfl
theorem rls (v x : Value) : ReflectliteValue.set #[v, x] = (do
 let (some (dst, a, fl), some (src, b, _)) := (← ReflectliteValue.parts v, ← ReflectliteValue.parts x)
  | unsupported (.noEntry "extern/(internal/reflectlite.Value).Set.zeroValue")
 if fl / ReflectliteValue.flagAddr % 2 == 0 then unsupported (.noEntry "extern/(internal/reflectlite.Value).Set.unaddressable")
 let val ← loadVar src b
 if ← Rtype.directlyAssignable dst src then storeVar dst a val
 else if ← Rtype.implements dst src then
  if (← Rtype.kind src) == 20 then
   match val with
   | .nilIface => unsupported (.noEntry "extern/reflectlite: a nil value of one interface type handed on as a value of another")
   | _ => storeVar dst a val
  else storeVar dst a (.iface src val)
 else panicString ("reflectlite.Set: value of type " ++ (← Rtype.spelt src) ++ " is not assignable to type " ++ (← Rtype.spelt dst))
 pure (.tuple #[])) := rfl
theorem pR (h : ((ReflectliteValue.method (ReflectliteValue.valueError "reflectlite.Value.IsNil" 0) ReflectliteValue.isNil) args).run Tryz.prog w = .ok v w') : (callFunc 146 args).run Tryz.prog w = .ok (.value v) w' :=
 ez (e := (ReflectliteValue.method (ReflectliteValue.valueError "reflectlite.Value.IsNil" 0) ReflectliteValue.isNil)) Tryz.func146 (by kernel_rfl) (by kernel_rfl) (by kernel_rfl) (by kernel_rfl) h
theorem rO (h : ((ReflectliteValue.method (ReflectliteValue.valueError "reflectlite.Value.Elem" 0) ReflectliteValue.elem) args).run Tryz.prog w = .ok v w') : (callFunc 197 args).run Tryz.prog w = .ok (.value v) w' :=
 ez (e := (ReflectliteValue.method (ReflectliteValue.valueError "reflectlite.Value.Elem" 0) ReflectliteValue.elem)) Tryz.func197 (by kernel_rfl) (by kernel_rfl) (by kernel_rfl) (by kernel_rfl) h
theorem vM (h : (ReflectliteValue.set args).run Tryz.prog w = .ok v w') : (callFunc 198 args).run Tryz.prog w = .ok (.value v) w' :=
 ez (e := ReflectliteValue.set) Tryz.func198 (by kernel_rfl) (by kernel_rfl) (by kernel_rfl) (by kernel_rfl) h
theorem vA (b : Nat) (w : World) : (ReflectliteValue.parts (rv 161 b 150)).run Tryz.prog w = .ok (some (161, ⟨b, 0, none⟩, 150)) w := by kernel_rfl
theorem AH (b : Nat) (w : World) : (ReflectliteValue.parts (rv 159 b 406)).run Tryz.prog w = .ok (some (159, ⟨b, 0, none⟩, 406)) w := by kernel_rfl
theorem AF (b : Nat) (w : World) : (ReflectliteValue.parts (rv 159 b 150)).run Tryz.prog w = .ok (some (159, ⟨b, 0, none⟩, 150)) w := by kernel_rfl
theorem mkF (b : Nat) (w : World) : (ReflectliteValue.mk 159 ⟨b, 0, none⟩ ReflectliteValue.flagAddr).run Tryz.prog w = .ok (rv 159 b 406) w := by kernel_rfl
theorem Bj (w : World) : (Rtype.elem? 161).run Tryz.prog w = .ok (some 159) w := by kernel_rfl
theorem Bo (w : World) : (Rtype.directlyAssignable 159 159).run Tryz.prog w = .ok true w := by kernel_rfl
theorem vK (a p : Nat) (w : World) (ha : bK ⟨a, 0, none⟩ (.pointer (some ⟨p, 0, none⟩)) w) : (callFunc 146 #[rv 161 a 150]).run Tryz.prog w = .ok (.value (.bool false)) w :=
 pR (by
  rw [rlm]
  simp only [Sem.run_bind, vA, Result.andThen]
  have := d6 (P := Tryz.prog) (t := 161) (by kernel_rfl) ha
  simp [ReflectliteValue.isNil, this, Result.andThen])
theorem Cz (a p : Nat) (w : World) (ha : bK ⟨a, 0, none⟩ (.pointer (some ⟨p, 0, none⟩)) w) : (callFunc 197 #[rv 161 a 150]).run Tryz.prog w = .ok (.value (rv 159 p 406)) w :=
 rO (by
  rw [rlm]
  simp only [Sem.run_bind, vA, Result.andThen]
  have := d6 (P := Tryz.prog) (t := 161) (by kernel_rfl) ha
  simp [ReflectliteValue.elem, this, Result.andThen, Bj, mkF])
theorem setF (ta b : Nat) (e : Addr) (old : Value) (w : World) (hb : bK ⟨b, 0, none⟩ (.pointer (some e)) w) (ht : w.heap[ta]? = some (.cells #[old] 159)) :
 (callFunc 198 #[rv 159 ta 406, rv 159 b 150]).run Tryz.prog w = .ok (.value (.tuple #[])) (w.setCell ⟨ta, 0, none⟩ (.pointer (some e))) :=
 vM (by
  rw [rls]
  simp only [Sem.run_bind, AH, AF, Result.andThen]
  have h1 := d6 (P := Tryz.prog) (t := 159) (by kernel_rfl) hb
  have h2 := ii (P := Tryz.prog) (i := 0) (v := .pointer (some e)) ht (by simp) rfl
  have h3 := bT (P := Tryz.prog) (t := 159) (n := 1) (by unfold ce; kernel_rfl) w
  simp [ReflectliteValue.flagAddr, h1, Result.andThen, Bo, storeVar, Value.cells, storeCells, Addr.add, h2, h3])
theorem vz (b : Nat) (w : World) : (ReflectliteValue.parts (rv 165 b 150)).run Tryz.prog w = .ok (some (165, ⟨b, 0, none⟩, 150)) w := by kernel_rfl
theorem AG (b : Nat) (w : World) : (ReflectliteValue.parts (rv 48 b 386)).run Tryz.prog w = .ok (some (48, ⟨b, 0, none⟩, 386)) w := by kernel_rfl
theorem AE (b : Nat) (w : World) : (ReflectliteValue.parts (rv 48 b 130)).run Tryz.prog w = .ok (some (48, ⟨b, 0, none⟩, 130)) w := by kernel_rfl
theorem mkN (b : Nat) (w : World) : (ReflectliteValue.mk 48 ⟨b, 0, none⟩ ReflectliteValue.flagAddr).run Tryz.prog w = .ok (rv 48 b 386) w := by kernel_rfl
theorem Bi (w : World) : (Rtype.elem? 165).run Tryz.prog w = .ok (some 48) w := by kernel_rfl
theorem Bn (w : World) : (Rtype.directlyAssignable 48 48).run Tryz.prog w = .ok true w := by kernel_rfl
theorem AZ (a p : Nat) (w : World) (ha : bK ⟨a, 0, none⟩ (.pointer (some ⟨p, 0, none⟩)) w) : (callFunc 146 #[rv 165 a 150]).run Tryz.prog w = .ok (.value (.bool false)) w :=
 pR (by
  rw [rlm]
  simp only [Sem.run_bind, vz, Result.andThen]
  have := d6 (P := Tryz.prog) (t := 165) (by kernel_rfl) ha
  simp [ReflectliteValue.isNil, this, Result.andThen])
theorem Cy (a p : Nat) (w : World) (ha : bK ⟨a, 0, none⟩ (.pointer (some ⟨p, 0, none⟩)) w) : (callFunc 197 #[rv 165 a 150]).run Tryz.prog w = .ok (.value (rv 48 p 386)) w :=
 rO (by
  rw [rlm]
  simp only [Sem.run_bind, vz, Result.andThen]
  have := d6 (P := Tryz.prog) (t := 165) (by kernel_rfl) ha
  simp [ReflectliteValue.elem, this, Result.andThen, Bi, mkN])
theorem setN (ta b : Nat) (e : Int) (old : Value) (w : World) (hb : bK ⟨b, 0, none⟩ (.int .i64 e) w) (ht : w.heap[ta]? = some (.cells #[old] 48)) :
 (callFunc 198 #[rv 48 ta 386, rv 48 b 130]).run Tryz.prog w = .ok (.value (.tuple #[])) (w.setCell ⟨ta, 0, none⟩ (.int .i64 e)) :=
 vM (by
  rw [rls]
  simp only [Sem.run_bind, AG, AE, Result.andThen]
  have h1 := d6 (P := Tryz.prog) (t := 48) (by kernel_rfl) hb
  have h2 := ii (P := Tryz.prog) (i := 0) (v := .int .i64 e) ht (by simp) rfl
  have h3 := bT (P := Tryz.prog) (t := 48) (n := 1) (by unfold ce; kernel_rfl) w
  simp [ReflectliteValue.flagAddr, h1, Result.andThen, Bn, storeVar, Value.cells, storeCells, Addr.add, h2, h3])
end
end Go.Proofs.YtmeegfamopaljaaGreatDoor

set_option maxHeartbeats 1000000
set_option maxRecDepth 10000
namespace Go.Proofs.YtmeegfamopaljaaGreatDoor
open Go Go.RowKit Go.SL
open FK (dQ ck bM)
theorem rB {G : Env → Prop} {S : FK.WS} {a b : List FK.Tmr} {t : FK.Tmr} {rest : List Nat} (w : Nat) (h : FK.Inv S (t.blk :: rest)) (hS : S.tms = a ++ t :: b) (hsq : S.seq < 9223372036854775808) (hln : S.tms.length ≤ 99999)
 (hlow : ∀ u ∈ S.tms, u.blk ∉ t.blk :: rest → u.pos = (t.place S.now).pos → u.seq < t.seq) :
 Does Tryz.prog G 203 [aO w, aO t.blk].toArray [bD w S] fun v m => v = .tuple #[] ∧ m = [bD w (S.put a t b)] := by
 have htm : t ∈ S.tms := by rw [hS]; simp
 obtain ⟨k1, k2, k3⟩ := FK.nK h htm
 obtain ⟨hab, hbb⟩ := FK.fW (f := FK.Tmr.blk) (t := t) (by rw [← hS]; exact h.blks)
 obtain ⟨lv, hlv⟩ : ∃ lv, lv = FK.gw S.now t.due := ⟨_, rfl⟩
 obtain ⟨st, hst⟩ : ∃ st, st = FK.tE lv t.due := ⟨_, rfl⟩
 obtain ⟨k, hk⟩ : ∃ k, k = 64 * lv + st := ⟨_, rfl⟩
 have hpl : t.place S.now = { t with lvl := lv, slot := st } := by subst hst; subst hlv; rfl
 have hkp : (t.place S.now).pos = k := by rw [hpl, hk]; rfl
 rw [hpl] at k1 k2
 replace k1 : lv < 11 := k1
 replace k2 : st < 64 := k2
 rw [hkp] at k3 hlow
 have hdue := h.due t htm
 have hnow : S.now ≤ t.due := hdue.1
 have hd62 : t.due ≤ 4611686018427387904 := hdue.2
 have hxl : t.due ^^^ S.now < 18446744073709551616 := Nat.xor_lt_two_pow (n := 64) (show t.due < 18446744073709551616 by omega) (show S.now < 18446744073709551616 by omega)
 have h64 := zt hxl
 have hlev : (dT (t.due ^^^ S.now) - 1) / 6 = lv := by rw [AX, hlv]; rfl
 have hslot : t.due / 2 ^ (6 * lv) % 64 = st := by rw [hst, ← FK.nr]; rfl
 have hdiv : t.due / 2 ^ (6 * lv) ≤ t.due := Nat.div_le_self _ _
 have hsl := nI h (by omega) k3
 have hus := h.uslt lv k1
 have htq := h.seqle t htm
 have hmemS : ∀ x ∈ S.bs k, ∃ u ∈ a ++ b, u.blk = x := fun x hx => by
  obtain ⟨u, hu, e, _, hun⟩ := h.of_slot k3 hx
  rw [hS] at hu
  rcases List.mem_append.1 hu with hu | hu
  · exact ⟨u, by simp [hu], e⟩
  · rcases List.mem_cons.1 hu with rfl | hu
    · simp at hun
    · exact ⟨u, by simp [hu], e⟩
 have hbel : Below' (iB (a ++ b)) (S.bs k) (Ak (a ++ b)) t.seq := tY hmemS fun u hu hin => by
  have hum : u ∈ S.tms := by
   rw [hS]
   rcases List.mem_append.1 hu with hu | hu <;> simp [hu]
  obtain ⟨x, hx, e, hp, hun⟩ := h.of_slot k3 hin
  have : x = u := FK.ea h.blks hx hum e
  subst this
  exact hlow x hum hun hp
 obtain ⟨q, hq⟩ : ∃ q, q = t.due / 2 ^ (6 * lv) := ⟨_, rfl⟩
 rw [← hq] at hslot hdiv
 have hp2 : (2 : Nat) ^ st < 18446744073709551616 := Nat.pow_lt_pow_right (a := 2) (m := st) (n := 64) (by omega) k2
 have hput : S.put a t b = { S with us := dQ S.us lv (S.us lv ||| 2 ^ st), bs := dQ S.bs k (S.bs k ++ [t.blk]), tms := a ++ { t with lvl := lv, slot := st } :: b } := by
  unfold FK.WS.put
  rw [hkp, hpl]
 have hby : gF (a ++ t :: b) = gF (a ++ { t with lvl := lv, slot := st } :: b) := by simp [gF]
 clear hdue
 refine Does.body Tryz.func203 Z Z fun E fr hE => ?_
 refine ai (eT .head fun sl mp => ?_)
 rw [hS]
 refine At.ent (l' := cK (sl k) (S.bs k) :: hY sl S.bs k :: eh t :: iB (a ++ b) :: BO w S sl mp :: bP gE mp (gF (a ++ t :: b)) :: fr) ?_ ?_
 · refine (Ent.perm (List.Perm.swap _ _ _)).trans ((jm k3).trans (Ent.cons (Ent.cons ?_)))
   refine (Ent.perm (List.Perm.swap _ _ _)).trans (tmrs_open.trans ?_)
   exact Ent.refl _
 refine aC .head ?_
 intro A c hA hnil hform hc1 hc2 _
 rw [hA]
 refine At.seq (Dr.start Z (dP 0 Z Z (ae Z) (dP 1 Z Z (ae Z) (dP 2 Z Z (am Z) (dP 3 Z Z (ab (off := 3) Z Z) (dL 4 Z Z (aa Z Z) (ag Z) (dP 5 Z Z (ae Z) (dP 6 Z Z (am Z) (dP 7 Z Z (ab (off := 0) Z Z) (dL 8 Z Z (aa Z Z) (ag (fU _ _ _ _ _)) (dP 9 Z Z (Cu (r := ((t.due ^^^ S.now : Nat) : Int)) Z Z (Al (by omega) (by omega))) ?_)))))))))))
 refine dR 10 Z Z (ah Z Z Z hE (uC _ hxl) (Ent.refl _) ?_)
 rintro v m ⟨rfl, rfl⟩
 refine aL (dK [true, true] (Kept.cons (ag (fU _ _ _ _ _)) (Kept.cons (ag Z) Kept.nil)) (dP 11 Z Z (eu (r := ((dT (t.due ^^^ S.now) : Int) - 1)) Z Z (by rw [dd (by omega)])) (dP 12 Z Z (ny (r := ((dT (t.due ^^^ S.now) - 1 : Nat) : Int)) Z Z (by omega)) (dP 13 Z Z (kJ (r := (lv : Int)) Z Z (by omega) (by rw [← hlev, Int.tdiv_eq_ediv_of_nonneg (by omega), dd (by omega)]; omega)) (dP 14 Z Z (am Z) (dP 15 Z Z (ab (off := 5) Z Z) ?_))))))
 refine dR 16 Z Z (bB Z Z Z Z Z (by first | decide | simp | (simp; omega)) ?_)
 refine dK [false, false] Kept.nil (dE (At.then (At.seq (Dr.start Z (dP 0 Z Z (ae Z) (dP 1 Z Z (ae Z) (dP 2 Z Z (am Z) (dP 3 Z Z (ab (off := 3) Z Z) (dL 4 Z Z (aa Z Z) (ag Z) (dP 5 Z Z (ae Z) (dP 6 Z Z (am Z) (dP 7 Z Z (ab (off := 5) Z Z) (dL 8 Z Z (aa Z Z) (ag Z) (dP 9 Z Z (lU (r := ((6 * lv : Nat) : Int)) Z Z (by rw [dd (by omega)]; simp)) ?_))))))))))))))
 refine dP 10 Z Z (eZ (r := (q : Int)) Z Z (by omega) (by rw [hq]; exact la t.due (6 * lv) (by omega) (by omega))) ?_
 refine dP 11 Z Z (bz (r := (q : Int)) Z Z Z (dd (by omega))) (dP 12 Z Z (kI (r := (st : Int)) Z Z (by omega) (by rw [Int.tmod_eq_emod_of_nonneg (by omega)]; omega)) (dP 13 Z Z (am Z) (dP 14 Z Z (ab (off := 6) Z Z) ?_)))
 refine dR 15 Z Z (bB Z Z Z Z Z (by first | decide | simp | (simp; omega)) ?_)
 refine dK [false, false] Kept.nil (dE (At.then (At.seq (Dr.start Z (dP 0 Z Z (ae Z) (dP 1 Z Z (ae Z) (dP 2 Z Z (am Z) (dP 3 Z Z (ab (off := 5) Z Z) (dL 4 Z Z (aa Z Z) (ag Z) (dP 5 Z Z (ae Z) (dP 6 Z Z (am Z) (dP 7 Z Z (ab (off := 6) Z Z) (dL 8 Z Z (aa Z Z) (ag Z) (dP 9 Z Z (am Z) (dP 10 Z Z (ab (off := 2) Z Z) (dP 11 Z Z (dC (i := lv) (z := 64) (o' := 2 + 64 * lv) Z Z Z Z k1 (by omega)) (dP 12 Z Z (dC (i := st) (z := 1) (o' := 2 + k) Z Z Z Z k2 (by omega)) (dP 13 Z Z (ax Z) (dE ?_)))))))))))))))))))
 refine At.then (At.seq (Dr.start Z (dP 0 Z Z (ae Z) (dP 1 Z Z (am Z) (dL 2 Z Z (aa (v := .slice A (S.bs k).length c) Z Z) (ag (by rw [gM _ _ _ _ _ k3, hA])) (dP 3 Z Z (ae Z) (dP 4 Z Z (am Z) (dP 5 Z Z (ab (off := 4) Z Z) (dL 6 Z Z (aa Z Z) (ag Z) ?_)))))))))
 refine dR 7 Z Z (ah Z Z Z hE (ue hbel (by omega) hsl) (aP (.tail (.head)) (.tail (.tail (.head)))) ?_)
 rintro v m ⟨rfl, rfl⟩
 refine aJ (dK [false, false] Kept.nil (dP 8 Z Z (ae Z) (dP 9 Z Z (bc Z Z) (dP 10 Z Z (bc Z Z) (dP 11 Z Z (ax Z) (dP 12 Z Z (ax Z) (dE (At.then (At.seq (At.region (L.mv Z Z (L.mv Z Z (aR Z Z (L.val Z (aa (v := .slice A (S.bs k).length c) Z Z) (ag (by rw [gM _ _ _ _ _ k3, hA])) (L.mv Z Z (L.mv Z Z (L.op Z (da Z Z Z Z Z Z fun g => ?_))))))))))))))))))
 refine L.op Z (ah Z Z Z hE (uF hsl) (aP (.tail (.head)) .head) ?_)
 rintro v m ⟨⟨A', c', rfl⟩, rfl⟩
 refine ai (aR Z Z (L.st Z Z Z Z (by rw [ew]; omega) ?_))
 rw [iE, kM _ _ _ _ _ k3]
 refine L.nil (At.then (Dr.start Z (dP 0 Z Z (ae Z) (dP 1 Z Z (ae Z) (dP 2 Z Z (am Z) (dP 3 Z Z (ab (off := 5) Z Z) (dL 4 Z Z (aa Z Z) (ag Z) (dP 5 Z Z (am Z) (dP 6 Z Z (ab (off := 706) Z Z) (dP 7 Z Z (dC (i := lv) (z := 1) (o' := 706 + lv) Z Z Z Z k1 (by omega)) (dL 8 Z Z (aa Z Z) (ag (j9 _ _ _ _ _ k1)) (dP 9 Z Z (ae Z) (dP 10 Z Z (am Z) (dP 11 Z Z (ab (off := 6) Z Z) (dL 12 Z Z (aa Z Z) (ag Z) (dP 13 Z Z (jI (r := ((2 ^ st : Nat) : Int)) Z Z (by omega) (qt k2)) ?_))))))))))))))))
 refine dP 14 Z Z (rq (r := ((S.us lv ||| 2 ^ st : Nat) : Int)) Z Z (yp hus hp2)) ?_
 refine dP 15 Z Z (am Z) (dP 16 Z Z (ab (off := 706) Z Z) (dP 17 Z Z (dC (i := lv) (z := 1) (o' := 706 + lv) Z Z Z Z k1 (by omega)) ?_))
 refine dR 18 Z Z (bB Z Z Z Z Z (by rw [ew]; omega) ?_)
 rw [iE, kL _ _ _ _ _ k1]
 refine dK [false, false, false] Kept.nil (dE ?_)
 rw [hput]
 refine bm [_] rfl ⟨rfl, rfl⟩ ?_
 rw [hby]
 refine (aP (.tail (.head)) (.tail (.tail (.tail (.head))))).trans ((gh k3).trans ?_)
 refine (aP (p := eh { t with lvl := lv, slot := st }) (.tail (.tail (.tail (.head)))) (.tail (.tail (.head)))).trans (tmrs_close.trans ?_)
 exact (aP (.tail (.tail (.head))) (.tail (.head))).trans (cu (S := { S with us := dQ S.us lv (S.us lv ||| 2 ^ st), bs := dQ S.bs k (S.bs k ++ [t.blk]), tms := a ++ { t with lvl := lv, slot := st } :: b }) (sl := dQ sl k _) (mp := mp))
def By (us : Nat → Nat) (v : Value) : Prop :=
 ∃ (l s : Nat) (any : Bool), v = .tuple #[.int .i64 (l : Int), .int .i64 (s : Int), .bool any] ∧
  (any = true → l < 11 ∧ s < 64 ∧ (us l).testBit s = true ∧ (∀ j, j < s → (us l).testBit j = false) ∧ ∀ k, k < l → us k = 0) ∧ (any = false → ∀ k, k < 11 → us k = 0)
def BP (us : Nat → Nat) : List Value := (List.range 11).map fun l => .int .u64 (us l)
theorem yf (us : Nat → Nat) {l : Nat} (h : l < 11) : (BP us)[l]? = some (.int .u64 (us l)) := by simp [BP, h]
theorem BV (us : Nat → Nat) {l : Nat} {v : Value} (h : (BP us)[l]? = some v) : l < 11 := by
 have := (List.getElem?_eq_some_iff.1 h).1
 simpa [BP] using this
theorem uN (w now seq : Nat) (sl : Nat → Value) (us : Nat → Nat) (mp : Nat) (hus : ∀ l, l < 11 → us l < 18446744073709551616) :
 Does Tryz.prog Good 260 [aO w].toArray [blk w 337 (wc (dB now seq sl us mp))] fun v m => By us v ∧ m = [blk w 337 (wc (dB now seq sl us mp))] := by
 refine Does.body Tryz.func260 Z Z fun E fr hE => ?_
 refine ai (At.seq (At.region (L.as Z Z (L.as Z Z (L.as Z Z (L.nil (At.then (At.seq (At.seq (At.region (L.mv Z Z (aR Z Z (aI 706 Z Z Z ?_)))))))))))))
 refine L.val rfl (ao (n := 11) (vs := BP us) rfl rfl (by simp [BP]) rfl) (vg (fun j v hj => by have hl := BV us hj; rw [yf us hl] at hj; injection hj with hj; subst hj; exact j9 _ _ _ _ _ hl)) ?_
 refine L.mv Z Z (L.nil (At.then (At.block ?_)))
 refine bk (X := Nat) (fun i => [(11, .int .i64 i), (10, .agg (BP us).toArray), (0, aO w)]) (fun _ => blk w 337 (wc (dB now seq sl us mp)) :: fr) (fun i => i ≤ 11 ∧ ∀ k, k < i → us k = 0) (fun i => 11 - i) 0 ⟨by omega, by simp⟩ ⟨rfl, rfl, rfl, trivial⟩ (Ent.refl _) ?_
 rintro i ⟨hi, hno⟩
 refine At.seq (At.region (L.pure Z (bl Z Z Z) (L.nil (At.then (At.seq ?_)))))
 refine aE Z (fun c12 => ?_) (fun c12 => ?_)
 ·
  have hlt : i < 11 := by omega
  have hui := hus i hlt
  refine At.skip (At.then (At.seq (At.block (At.seq (At.region (L.mv Z Z (L.pure Z (nR (v := .int .u64 (us i)) Z Z Z Z Z hlt (by simpa using yf us hlt)) (L.as Z Z (L.as Z Z (L.nil (At.then (At.seq (At.region (L.mv Z Z (L.pure Z (bX Z Z Z) (L.nil (At.then ?_)))))))))))))))))
  refine aE Z (fun c16 => ?_) (fun c16 => ?_)
  ·
   have hne : us i ≠ 0 := by omega
   have hlow := j8 (us i) hui hne
   refine At.seq (At.region (L.mv Z Z (L.mv Z Z ?_)))
   refine L.op Z (Cg Z Z Z (fun w hw => (oe (us i) hui hne w (hE.tab w hw.is)).mono fun e w' ⟨he, hw'⟩ => ⟨_, he, (rfl : _ = Value.int .i64 ((Lib.ctz 64 (us i) : Nat) : Int)), hw' ▸ Below.refl _ _⟩) ?_)
   rintro v rfl
   refine L.as Z Z (L.as Z Z (L.as Z Z (L.nil (At.then (At.ret (aB (aG (cp (aB (aG ?_))))))))))
   exact f8 [_] rfl rfl rfl rfl ⟨⟨i, _, true, rfl, (fun _ => ⟨hlt, hlow.2.2, hlow.1, hlow.2.1, hno⟩), (fun h => by cases h)⟩, rfl⟩ (Ent.refl _)
  ·
   refine At.skip (an (At.then (At.region (L.pure Z (aS Z Z (dd (by omega))) (L.mv Z Z (L.nil ?_))))))
   exact At.round (i + 1) ⟨by omega, fun k hk => by rcases Nat.lt_or_ge k i with h | h; exact hno k h; obtain rfl : k = i := (by omega); omega⟩ (by omega) ⟨rfl, rfl, rfl, trivial⟩ (Ent.refl _)
 ·
  refine At.exit (az (ay (ar (At.then (At.seq (At.region (L.as Z Z (L.as Z Z (L.as Z Z (L.nil (At.then (At.ret ?_))))))))))))
  exact f8 [_] rfl rfl rfl rfl ⟨⟨0, 0, false, rfl, (fun h => by cases h), fun _ k hk => hno k (by omega)⟩, rfl⟩ (Ent.refl _)
end Go.Proofs.YtmeegfamopaljaaGreatDoor

set_option maxRecDepth 10000
namespace Go.Proofs.YtmeegfamopaljaaGreatDoor
open Go Go.RowKit Go.SL
open FK (dQ ck bM)
theorem vh : KeyK Tryz.prog 268 FK.Pl gE :=
 Cn (arr := Ah) (by kernel_rfl) (by kernel_rfl) (fun a => by cases a; kernel_rfl) (fun a b => by cases a; cases b; kernel_rfl) (fun a b => by rw [Bool.eq_iff_iff, FK.Pl.beq_iff, FK.Pl.beq_iff]; exact eq_comm) (fun a b h => (FK.Pl.beq_iff a b).1 h) (fun a => by simp [Instr.sameBits, Ah])
abbrev fL (p : FK.Pl) : List Value := [.int .u64 p.run, .int .i64 p.node, .int .i64 p.what]
section
variable {a b : List FK.Tmr} {t : FK.Tmr} {S : FK.WS} {G : Env → Prop}
theorem Bt (h : ((a ++ t :: b).map FK.Tmr.key).Nodup) : cI (gF (a ++ t :: b)) t.key = some (aO t.blk) := by
 have ha := (FK.fW h).1
 unfold cI gF
 rw [List.map_append, List.find?_append]
 have : (a.map fun t => (t.key, aO t.blk)).find? (·.1 == t.key) = none := by
  rw [List.find?_eq_none]
  intro p hp
  obtain ⟨u, hu, rfl⟩ := List.mem_map.1 hp
  simpa using ha u hu
 rw [this]
 simp
theorem vW {l : List FK.Tmr} {k : FK.Pl} (h : k ∉ l.map FK.Tmr.key) : cI (gF l) k = none := by
 unfold cI gF
 rw [Option.map_eq_none_iff, List.find?_eq_none]
 intro p hp
 obtain ⟨u, hu, rfl⟩ := List.mem_map.1 hp
 have : u.key ≠ k := fun e => h (e ▸ List.mem_map_of_mem hu)
 simpa using this
theorem CB (h : ((a ++ t :: b).map FK.Tmr.key).Nodup) : (gF (a ++ t :: b)).eraseP (·.1 == t.key) = gF (a ++ b) := by
 have ha := (FK.fW h).1
 unfold gF
 rw [List.map_append, List.map_append, List.eraseP_append_right, List.map_cons, List.eraseP_cons_of_pos]
 · simp
 · intro p hp
   obtain ⟨u, hu, rfl⟩ := List.mem_map.1 hp
   simpa using ha u hu
theorem mP : ∀ {l : List Nat} {i x : Nat}, l.Nodup → l[i]? = some x → l.erase x = l.eraseIdx i
 | [], _, _, _, h => by simp at h
 | y :: l, 0, x, _, h => by
  simp at h; subst h
  simp
 | y :: l, i + 1, x, hn, h => by
  rw [List.nodup_cons] at hn
  have hm : x ∈ l := List.mem_of_getElem? (by simpa using h)
  have hyx : (y == x) = false := by
   simp only [beq_eq_false_iff_ne]
   rintro rfl
   exact hn.1 hm
  rw [List.erase_cons_tail (by simp [hyx]), List.eraseIdx_cons_succ, mP hn.2 (by simpa using h)]
theorem uc {un : List Nat} (h : FK.Inv S un) {i : Nat} (hi : i < 704) : (S.bs i).Nodup := by
 rw [h.slot i hi]
 exact h.blks.sublist (List.filter_sublist.map _)
theorem xD (w : Nat) (k : FK.Pl) (hk : k ∉ S.tms.map FK.Tmr.key) :
 Does Tryz.prog G 202 [aO w, gE k].toArray [bD w S] fun v m => v = .tuple #[] ∧ m = [bD w S] := by
 refine Does.body Tryz.func202 Z Z fun E fr hE => ?_
 refine ai (eT .head fun sl mp => (At.seq (At.region (L.op Z (cb Z Z fun b3 => (L.nil (At.then (At.seq (Dr.start Z (dP 0 Z Z (ae Z) (dP 1 Z Z (am Z) (dP 2 Z Z (ab (off := 717) Z Z) (dL 3 Z Z (aa Z Z) (ag (gN _ _ _ _ _)) (dL 4 Z Z (ao (vs := fL k) Z Z Z Z) (aw Z) (dL 5 Z Z (km (m := gF S.tms) Z vh Z Z Z (vW hk)) (fB (.tail (.tail (.tail (.tail (.head)))))) (dP 6 Z Z (ae Z) (dP 7 Z Z (bc Z Z) (dP 8 Z Z (bc Z Z) (dR 9 Z Z (aN (z := .pointer none) Z Z fun b4 => (dK [true, true, true] (Kept.cons (fB (.tail (.tail (.tail (.tail (.tail (.head))))))) (Kept.cons (aw Z) (Kept.cons (ag (gN _ _ _ _ _)) Kept.nil))) ?_)))))))))))))))))))))
 refine dR 10 Z Z (bB Z Z Z Z Z (by first | decide | simp | (simp; omega)) ?_)
 exact dK [false, false, false] Kept.nil (dP 11 Z Z (ax Z) (dE (At.then (At.seq (At.seq (At.region (L.mv Z Z (L.pure Z (cg Z Z) (L.nil (At.then (aQ Z (At.ret (aG (BA [_] rfl ⟨rfl, rfl⟩ (Ent.drop.trans (Ent.drop.trans (cu (S := S) (sl := sl) (mp := mp))))))))))))))))))
set_option maxHeartbeats 1000000 in
theorem pX (w : Nat) (h : FK.Inv S []) (hS : S.tms = a ++ t :: b) (hln : S.tms.length ≤ 99999) :
 Does Tryz.prog G 202 [aO w, gE t.key].toArray [bD w S] fun v m => v = .tuple #[] ∧ m = [bD w (S.drop a t b), eh t] := by
 have htm : t ∈ S.tms := by rw [hS]; simp
 obtain ⟨k1, k2⟩ := h.lvl' htm (by simp)
 have k3 := h.pos htm (by simp)
 obtain ⟨k, hk⟩ : ∃ k, k = t.pos := ⟨_, rfl⟩
 have hkl : k = 64 * t.lvl + t.slot := hk
 have hin : t.blk ∈ S.bs k := by rw [hk]; exact h.mem_slot htm (by simp)
 rw [← hk] at k3
 have hus := h.uslt t.lvl k1
 have hsl := nI h (by omega) k3
 have cN := uc h k3
 obtain ⟨i, hil, hi⟩ := List.getElem_of_mem hin
 have hi? : (S.bs k)[i]? = some t.blk := by rw [List.getElem?_eq_getElem hil, hi]
 have hne : ∀ j, j ≠ i → (S.bs k)[j]? ≠ some t.blk := fun j hj e => by
  obtain ⟨hjl, hje⟩ := List.getElem?_eq_some_iff.1 e
  exact hj ((List.getElem_inj cN).1 (hje.trans hi.symm))
 have her : (S.bs k).erase t.blk = (S.bs k).eraseIdx i := by
  exact mP cN hi?
 have hbl : Blks (iB S.tms) (S.bs k) := wq fun x hx => by
  obtain ⟨u, hu, e, _⟩ := h.of_slot k3 hx
  exact ⟨u, hu, e⟩
 have hp2 : (2 : Nat) ^ t.slot < 18446744073709551616 := Nat.pow_lt_pow_right (a := 2) (m := t.slot) (n := 64) (by omega) k2
 have hkeys := h.keys
 rw [hS] at hkeys
 refine Does.body Tryz.func202 Z Z fun E fr hE => ?_
 refine ai (eT .head fun sl mp => ?_)
 refine At.ent (l' := cK (sl k) (S.bs k) :: hY sl S.bs k :: BO w S sl mp :: iB S.tms :: bP gE mp (gF (a ++ t :: b)) :: fr) ?_ ?_
 · refine (Ent.perm (List.Perm.swap _ _ _)).trans ((jm k3).trans (Ent.cons (Ent.cons ?_)))
   rw [← hS]
   exact Ent.refl _
 refine aC .head ?_
 intro A c hA hnil hform hc1 hc2 _
 rw [hA]
 refine At.seq (At.region (L.op Z (cb Z Z fun b3 => (L.nil (At.then (At.seq (Dr.start Z (dP 0 Z Z (ae Z) (dP 1 Z Z (am Z) (dP 2 Z Z (ab (off := 717) Z Z) (dL 3 Z Z (aa Z Z) (ag (gN _ _ _ _ _)) (dL 4 Z Z (ao (vs := fL t.key) Z Z Z Z) (aw Z) (dL 5 Z Z (i6 Z vh Z Z (Bt hkeys)) (fB (.tail (.tail (.tail (.tail (.tail (.head))))))) (dP 6 Z Z (ae Z) (dP 7 Z Z (bc Z Z) (dP 8 Z Z (bc Z Z) (dR 9 Z Z (aN (z := .pointer none) Z Z fun b4 => (dK [true, true, true] (Kept.cons (fB (.tail (.tail (.tail (.tail (.tail (.tail (.head)))))))) (Kept.cons (aw Z) (Kept.cons (ag (gN _ _ _ _ _)) Kept.nil))) ?_)))))))))))))))))))
 refine dR 10 Z Z (bB Z Z Z Z Z (by first | decide | simp | (simp; omega)) ?_)
 refine dK [false, false, false] Kept.nil (dP 11 Z Z (ax Z) (dE (At.then (At.seq (At.seq (At.region (L.mv Z Z (L.pure Z (cg Z Z) (L.nil (At.then (aj Z (At.skip (At.then (At.seq (Dr.start Z (dP 0 Z Z (ae Z) (dP 1 Z Z (am Z) (dP 2 Z Z (ab (off := 717) Z Z) (dL 3 Z Z (aa Z Z) (ag (gN _ _ _ _ _)) ?_)))))))))))))))))))
 refine dL 4 Z Z (ao (vs := fL t.key) Z Z Z Z) (aw Z) (dR 5 Z Z (qh Z Z vh Z Z (.tail (.tail (.tail (.tail (.tail (.tail (.head))))))) ?_))
 rw [CB hkeys]
 refine dK [false, false] Kept.nil (dE (At.then (At.seq (Dr.start Z (dP 0 Z Z (ae Z) (dL 1 Z Z (aa Z Z) (ag Z) (dP 2 Z Z (am Z) (dP 3 Z Z (ab (off := 5) Z Z) (dL 4 Z Z (aa Z Z) (qd (.tail (.tail (.tail (.tail (.tail (.tail (.head))))))) htm Z) (dL 5 Z Z (aa Z Z) (ag Z) (dP 6 Z Z (am Z) (dP 7 Z Z (ab (off := 6) Z Z) (dL 8 Z Z (aa Z Z) (qd (.tail (.tail (.tail (.tail (.tail (.tail (.head))))))) htm Z) (dP 9 Z Z (am Z) (dP 10 Z Z (ab (off := 2) Z Z) (dP 11 Z Z (dC (i := t.lvl) (z := 64) (o' := 2 + 64 * t.lvl) Z Z Z Z k1 (by omega)) (dP 12 Z Z (dC (i := t.slot) (z := 1) (o' := 2 + k) Z Z Z Z k2 (by omega)) (dP 13 Z Z (ax Z) (dE ?_)))))))))))))))))))
 refine At.then (At.seq (At.region (L.mv Z Z (L.mv Z Z (aR Z Z (L.val Z (aa (v := .slice A (S.bs k).length c) Z Z) (ag (by rw [gM _ _ _ _ _ k3, hA])) ?_))))))
 refine L.pure Z (eO Z Z) ?_
 refine L.op Z (ah Z Z Z hE (uX hbl hi? hne hsl) (cc (.tail (.tail (.tail (.head)))) (.tail (.head)) (.tail (.tail (.tail (.tail (.head)))))) ?_)
 rintro v m ⟨⟨A', c', rfl⟩, rfl⟩
 refine cE (aR Z Z (L.st Z Z Z Z (by rw [ew]; omega) ?_))
 rw [iE, kM _ _ _ _ _ k3]
 refine L.nil (At.then (At.seq (At.region (L.mv Z Z (aR Z Z (L.val Z (aa (v := .slice A' ((S.bs k).eraseIdx i).length c') Z Z) (ag (by rw [gM _ _ _ _ _ k3, ck])) (L.pure Z (aM Z Z) (L.pure Z (aH Z Z Z) (L.nil (At.then ?_))))))))))
 refine aE Z (fun c47 => ?_) (fun c47 => ?_)
 ·
  have he : (S.bs k).eraseIdx i = [] := List.eq_nil_of_length_eq_zero (by omega)
  have hdrop : S.drop a t b = { S with us := dQ S.us t.lvl (FK.clr (S.us t.lvl) t.slot), bs := dQ S.bs k ((S.bs k).eraseIdx i), tms := a ++ b } := by
   unfold FK.WS.drop
   rw [← hk, her, if_pos he]
  refine Dr.start Z (dP 0 Z Z (ae Z) (dL 1 Z Z (aa Z Z) (ag Z) (dP 2 Z Z (am Z) (dP 3 Z Z (ab (off := 5) Z Z) (dL 4 Z Z (aa Z Z) (qd (.tail (.tail (.tail (.head)))) htm Z) (dP 5 Z Z (am Z) (dP 6 Z Z (ab (off := 706) Z Z) (dP 7 Z Z (dC (i := t.lvl) (z := 1) (o' := 706 + t.lvl) Z Z Z Z k1 (by omega)) (dL 8 Z Z (aa Z Z) (ag (j9 _ _ _ _ _ k1)) (dL 9 Z Z (aa Z Z) (ag Z) (dP 10 Z Z (am Z) (dP 11 Z Z (ab (off := 6) Z Z) (dL 12 Z Z (aa Z Z) (qd (.tail (.tail (.tail (.head)))) htm Z) (dP 13 Z Z (jI (r := ((2 ^ t.slot : Nat) : Int)) Z Z (by omega) (qt k2)) (dP 14 Z Z (pU (r := ((FK.clr (S.us t.lvl) t.slot : Nat) : Int)) Z Z (vT hus k2)) (dP 15 Z Z (am Z) (dP 16 Z Z (ab (off := 706) Z Z) (dP 17 Z Z (dC (i := t.lvl) (z := 1) (o' := 706 + t.lvl) Z Z Z Z k1 (by omega)) ?_))))))))))))))))))
  refine dR 18 Z Z (bB Z Z Z Z Z (by rw [ew]; omega) ?_)
  rw [iE, kL _ _ _ _ _ k1]
  refine dK [false, false, false, false, false] Kept.nil (dE ?_)
  rw [hdrop]
  refine bm [_, _] rfl ⟨rfl, rfl⟩ ?_
  rw [hS]
  refine ((Ent.drop1 (.tail (.tail (.head)))).trans (Ent.drop1 (.tail (.tail (.tail (.tail (.head))))))).trans ((aP (.tail (.head)) (.tail (.tail (.tail (.head))))).trans ((gh k3).trans ?_))
  refine (Ent.sel (.tail (.tail (.head)))).trans (tmrs_open.trans ?_)
  exact ((cc (.tail (.tail (.tail (.head)))) (.tail (.tail (.head))) (.tail (.head))).trans (Ent.cons (Ent.cons (Ent.cons (Ent.perm (List.Perm.swap _ _ _)))))).trans (cu (S := { S with us := dQ S.us t.lvl (FK.clr (S.us t.lvl) t.slot), bs := dQ S.bs k ((S.bs k).eraseIdx i), tms := a ++ b }) (sl := dQ sl k _) (mp := mp))
 ·
  have he : ¬ (S.bs k).eraseIdx i = [] := fun e => c47 (by rw [e]; rfl)
  have hdrop : S.drop a t b = { S with us := S.us, bs := dQ S.bs k ((S.bs k).eraseIdx i), tms := a ++ b } := by
   unfold FK.WS.drop
   rw [← hk, her, if_neg he]
  refine At.skip ?_
  rw [hdrop]
  refine bm [_, _] rfl ⟨rfl, rfl⟩ ?_
  rw [hS]
  refine ((Ent.drop1 (.tail (.tail (.head)))).trans (Ent.drop1 (.tail (.tail (.tail (.tail (.head))))))).trans ((aP (.tail (.head)) (.tail (.tail (.tail (.head))))).trans ((gh k3).trans ?_))
  refine (Ent.sel (.tail (.tail (.head)))).trans (tmrs_open.trans ?_)
  exact ((cc (.tail (.tail (.tail (.head)))) (.tail (.tail (.head))) (.tail (.head))).trans (Ent.cons (Ent.cons (Ent.cons (Ent.perm (List.Perm.swap _ _ _)))))).trans (cu (S := { S with us := S.us, bs := dQ S.bs k ((S.bs k).eraseIdx i), tms := a ++ b }) (sl := dQ sl k _) (mp := mp))
end
open FK (dQ ck bM)
section
variable {l : Nat} {a b : List FK.Tmr} {t : FK.Tmr} {S : FK.WS}
theorem B6 {x : Nat} (hx : x ≤ 4611686018427387904) (hl : l < 11) : ((x : Int)).fdiv (2 ^ min (((6 * (l + 1) : Nat) : Int)).toNat IntKind.u64.bits) = ((x / 64 ^ (l + 1) : Nat) : Int) := by
 rw [FK.nr]
 by_cases h : 6 * (l + 1) ≤ 64
 · exact la x _ (by omega) h
 · obtain rfl : l = 10 := by omega
   have h1 : min (((6 * (10 + 1) : Nat) : Int)).toNat IntKind.u64.bits = 64 := rfl
   rw [h1, Int.fdiv_eq_ediv_of_nonneg _ (Int.le_of_lt (Int.pow_pos (by omega)))]
   have h2 : x / 2 ^ (6 * (10 + 1)) = 0 := Nat.div_eq_of_lt (by omega)
   rw [h2]
   omega
theorem B8 {x : Nat} (hx : x ≤ 4611686018427387904) (hl : l < 11) : IntKind.u64.wrap (((x / 64 ^ (l + 1) : Nat) : Int) * 2 ^ min (((6 * (l + 1) : Nat) : Int)).toNat IntKind.u64.bits) = ((x / 64 ^ (l + 1) * 64 ^ (l + 1) : Nat) : Int) := by
 have hle := Nat.div_mul_le_self x (64 ^ (l + 1))
 by_cases h : 6 * (l + 1) ≤ 64
 · have h1 : min (((6 * (l + 1) : Nat) : Int)).toNat IntKind.u64.bits = 6 * (l + 1) := by
    show min (((6 * (l + 1) : Nat) : Int)).toNat 64 = _
    omega
   have h3 : ((x / 64 ^ (l + 1) : Nat) : Int) * 2 ^ (6 * (l + 1)) = ((x / 64 ^ (l + 1) * 64 ^ (l + 1) : Nat) : Int) := by
    rw [Int.natCast_mul, FK.nr (l + 1)]
    congr 1
   rw [h1, h3]
   exact wu64 (by omega)
 · obtain rfl : l = 10 := by omega
   have h2 : x / 64 ^ (10 + 1) = 0 := Nat.div_eq_of_lt (by omega)
   rw [h2]
   simp [kE]
theorem B7 {s : Nat} (hs : s * 64 ^ l ≤ 4611686018427387904) (hl : l < 11) : IntKind.u64.wrap ((s : Int) * 2 ^ min (((6 * l : Nat) : Int)).toNat IntKind.u64.bits) = ((s * 64 ^ l : Nat) : Int) := by
 have h1 : min (((6 * l : Nat) : Int)).toNat IntKind.u64.bits = 6 * l := by
  show min (((6 * l : Nat) : Int)).toNat 64 = _
  omega
 have h3 : (s : Int) * 2 ^ (6 * l) = ((s * 64 ^ l : Nat) : Int) := by
  rw [Int.natCast_mul, FK.nr l]
  congr 1
 rw [h1, h3]
 exact wu64 (by omega)
theorem y4 {x s : Nat} (hs : s < 64) : x / 64 ^ (l + 1) * 64 ^ (l + 1) ||| s * 64 ^ l = FK.bx x l s := by
 have h1 : s * 64 ^ l < 2 ^ (6 * (l + 1)) := by
  rw [← FK.nr, Nat.pow_succ, Nat.mul_comm (64 ^ l)]
  exact Nat.mul_lt_mul_of_pos_right hs (Nat.pow_pos (by omega))
 unfold FK.bx
 rw [FK.nr (l + 1), Nat.mul_comm (x / 2 ^ (6 * (l + 1)))]
 exact (Nat.two_pow_add_eq_or_of_lt h1 _).symm
theorem rx {α : Type} (f : Nat → α) (i : Nat) : dQ f i (f i) = f := by
 funext j
 by_cases h : j = i
 · subst h; exact ck _ _ _
 · exact bM _ _ h
theorem oS {sl : Nat → Value} {bs : Nat → List Nat} {i : Nat} {v : Value} (hi : i < 704) (hv : sl i = v) {fr : List HP} : Ent (cK v (bs i) :: hY sl bs i :: fr) (kA sl bs :: fr) := by
 have := gh (sl := sl) (bs := bs) (v := v) (b := bs i) (fr := fr) hi
 rwa [← hv, rx, rx, hv] at this
theorem vI (t : FK.Tmr) : ∀ (j : Nat) (v : Value), (fL t.key)[j]? = some v → (#[Value.int .u64 t.key.run, .int .i64 t.key.node, .int .i64 t.key.what, .int .u64 t.due, .int .u64 t.seq, .int .i64 t.lvl, .int .i64 t.slot])[0 + 0 + j]? = some v := fun j v h => by
 rcases j with _ | _ | _ | j
 · exact h
 · exact h
 · exact h
 · simp at h
theorem tmKey {E : Env} {l : List FK.Tmr} {m r : List HP} (s : Sel (iB l) m r) (ht : t ∈ l) : ∀ w, Holds E w m → gY t.blk (0 + 0) (fL t.key) w := fun w hw j v hj => by
 obtain ⟨F1, _, _, _, _, hp, _⟩ := (hw.sel s).star
 have := ll hp ht
 simp only [World.cell?, this]
 simpa using vI t j v hj
def PopR (w : Nat) (S : FK.WS) (up : Nat) (v : Value) (m : List HP) : Prop :=
 (∃ (S' : FK.WS) (x : FK.Pl × Nat), FK.IsMin (S.tms.map FK.kd) x (S'.tms.map FK.kd) ∧ x.2 ≤ up ∧ FK.Inv S' [] ∧ S'.now = x.2 ∧ S'.seq = S.seq ∧ v = .tuple #[gE x.1, .int .u64 x.2, .bool true] ∧ m = [bD w S']) ∨
 (∃ S' : FK.WS, (∀ y ∈ S.tms.map FK.kd, up < y.2) ∧ S'.tms.map FK.kd = S.tms.map FK.kd ∧ FK.Inv S' [] ∧ S'.now = up ∧ S'.seq = S.seq ∧ v = .tuple #[gE ⟨0, 0, 0⟩, .int .u64 0, .bool false] ∧ m = [bD w S'])
theorem yw (h : a.map FK.kd = b.map FK.kd) : a.length = b.length := by
 have := congrArg List.length h
 simpa using this
theorem Cp (h : S.tms = a ++ t :: b) : (S.put a t b).tms.map FK.kd = S.tms.map FK.kd := by
 rw [h]
 simp [FK.WS.put, FK.kd, FK.Tmr.place]
set_option maxRecDepth 10000 in
set_option maxHeartbeats 4000000 in
theorem y3 (w up : Nat) (h : FK.Inv S []) (hto : S.now ≤ up) (hto62 : up ≤ 4611686018427387904) (hsq : S.seq < 9223372036854775808) (hln : S.tms.length ≤ 99999) :
 Does Tryz.prog Good 236 [aO w, .int .u64 up].toArray [bD w S] (PopR w S up) := by
 refine Does.body Tryz.func236 Z Z fun E fr hE => ?_
 refine ai (At.seq (At.region (L.op Z (aN (z := gE ⟨0, 0, 0⟩) Z Z fun b4 => (L.as Z Z (L.as Z Z (L.nil (At.then (At.seq (At.block ?_))))))))))
 refine bk (X := FK.WS × Nat) (fun p => [(0, aO w), (1, .int .u64 up), (4, aO b4)]) (fun p => bD w p.1 :: blk b4 268 (Ah ⟨0, 0, 0⟩) :: fr) (fun p => FK.Inv p.1 [] ∧ p.1.now ≤ up ∧ p.1.seq = S.seq ∧ p.1.tms.map FK.kd = S.tms.map FK.kd ∧ (p.1.tms = [] ∨ ∃ t ∈ p.1.tms, t.lvl < p.2)) (fun p => p.2) (S, 11) ⟨h, hto, rfl, rfl, by
 cases hc : S.tms with
 | nil => exact .inl rfl
 | cons t l => exact .inr ⟨t, by simp, (h.lvl' (t := t) (by rw [hc]; simp) (by simp)).1⟩⟩ ⟨rfl, rfl, rfl, trivial⟩ (Ent.perm (List.Perm.swap _ _ _)) ?_
 rintro ⟨T, B⟩ ⟨hT, hTup, hTsq, hkd, hB⟩
 replace hT : FK.Inv T [] := hT
 replace hTup : T.now ≤ up := hTup
 replace hTsq : T.seq = S.seq := hTsq
 replace hkd : T.tms.map FK.kd = S.tms.map FK.kd := hkd
 have hTln : T.tms.length ≤ 99999 := by rw [yw hkd]; exact hln
 refine eT .head fun sl mp => (At.block (At.seq (At.region (L.mv Z Z ?_))))
 refine L.op Z (ah Z Z Z hE (uN w T.now T.seq sl T.us mp hT.uslt) (Ent.refl _) ?_)
 rintro v m ⟨⟨l, s, any, rfl, hany, hnone⟩, rfl⟩
 refine ai (L.mv Z Z (L.ex Z Z Z (L.ex Z Z Z (L.ex Z Z Z (L.as Z Z (L.as Z Z (L.as Z Z (L.nil (At.then (At.seq (At.seq (At.region (L.mv Z Z (L.pure Z (cg Z Z) (L.nil (At.then ?_))))))))))))))))
 refine fG Z (fun c23 => ?_) (fun c23 => ?_)
 ·
  have ha : any = false := by simpa using c23
  have hst := hT.stay hTup hto62 (.inl (hT.none (hnone ha)))
  refine At.exit (az (dM Z (ay (ar (At.then (At.seq (At.region (L.mv Z Z (L.mv Z Z (aR Z Z (aI 0 Z Z Z (L.val Z (aa Z Z) (ag (fU _ _ _ _ _)) (L.mv Z Z (L.pure Z (ny (r := (up : Int)) Z Z (by omega)) (aR Z Z (aI 0 Z Z Z (L.st Z Z Z Z (by rw [ew]; omega) ?_)))))))))))))))))
  rw [iE, lW]
  refine L.nil (At.then (At.seq (At.region (L.val Z (ao (vs := fL ⟨0, 0, 0⟩) Z Z Z Z) (aw Z) ?_))))
  refine L.op Z (aK Z (m := 3) Z Z Z Z (by simp [Value.oneCell']) (by first | decide | (simp [Value.cells]; done) | (simp [Value.cells]; omega)) ?_)
  refine L.as Z Z (L.as Z Z (L.nil (At.then (At.ret ?_))))
  skip
  have hall : ∀ y ∈ S.tms.map FK.kd, up < y.2 := fun y hy => by
   rw [← hkd] at hy
   obtain ⟨u, hu, rfl⟩ := List.mem_map.1 hy
   exact hst.2 u hu
  exact ir [_] rfl (bZ (vs := fL ⟨0, 0, 0⟩) Z Z Z Z (aw Z)) (Res.tmp Z) (Res.tmp Z) (.inr ⟨{ T with now := up }, hall, hkd, hst.1, rfl, hTsq, rfl, rfl⟩) (Ent.drop.trans (cu (S := { T with now := up }) (sl := sl) (mp := mp)))
 ·
  have ha : any = true := by simpa using c23
  obtain ⟨hl, hs, hb1, hb2, hb3⟩ := hany ha
  have hf : FK.Fst T l s := hT.fst hl hs hb1 hb2 hb3
  have hk7 : 64 * l + s < 704 := by omega
  obtain ⟨b0, hb0⟩ := List.exists_mem_of_ne_nil _ hf.has
  obtain ⟨u0, hu0, _⟩ := hT.of_slot hk7 hb0
  have hst62 : FK.bx T.now l s ≤ 4611686018427387904 := Nat.le_trans (hf.start hT hu0) (hT.due u0 hu0).2
  have hs62 : s * 64 ^ l ≤ 4611686018427387904 := Nat.le_trans (Nat.le_add_left _ _) hst62
  have hq := Nat.div_mul_le_self T.now (64 ^ (l + 1))
  have hlen0 : 0 < (T.bs (64 * l + s)).length := List.length_pos_iff.2 hf.has
  have hlB : l < B := by
   rcases hB with hB | ⟨u, hu, hB⟩
   · replace hB : T.tms = [] := hB
     rw [hB] at hu0; cases hu0
   · have := hf.ahead u hu
     replace hB : u.lvl < B := hB
     omega
  refine At.skip (At.then (At.seq (At.region (L.mv Z Z (L.pure Z (aS (r := ((l + 1 : Nat) : Int)) Z Z (by rw [dd (by omega)]; omega)) (L.pure Z (lU (r := ((6 * (l + 1) : Nat) : Int)) Z Z (by rw [dd (by omega)]; omega)) (L.as Z Z (L.nil (At.then (At.seq (Dr.start Z (dP 0 Z Z (ae Z) (dP 1 Z Z (am Z) (dP 2 Z Z (ab (off := 0) Z Z) (dL 3 Z Z (aa Z Z) (ag (fU _ _ _ _ _)) (dP 4 Z Z (ae Z) (dP 5 Z Z (eZ (r := ((T.now / 64 ^ (l + 1) : Nat) : Int)) Z Z (by omega) (B6 (by omega) hl)) (dP 6 Z Z (ae Z) (dP 7 Z Z (jI (r := ((T.now / 64 ^ (l + 1) * 64 ^ (l + 1) : Nat) : Int)) Z Z (by omega) (B8 (by omega) hl)) ?_)))))))))))))))))))
  refine dP 8 Z Z (ae Z) (dP 9 Z Z (bz (r := (s : Int)) Z Z Z (wu64 (by omega))) (dP 10 Z Z (ae Z) (dP 11 Z Z (lU (r := ((6 * l : Nat) : Int)) Z Z (by rw [dd (by omega)]; omega)) (dP 12 Z Z (jI (r := ((s * 64 ^ l : Nat) : Int)) Z Z (by omega) (B7 hs62 hl)) (dP 13 Z Z (rq (r := ((FK.bx T.now l s : Nat) : Int)) Z Z (by rw [yp (Nat.lt_of_le_of_lt hq (by omega)) (Nat.lt_of_le_of_lt hs62 (by omega)), y4 hs])) (dP 14 Z Z (ax Z) (dE (At.then (At.seq (At.seq (At.region (L.mv Z Z (L.mv Z Z (L.pure Z (cG Z Z Z) (L.nil (At.then ?_))))))))))))))))
  refine aE Z (fun c43 => ?_) (fun c43 => ?_)
  ·
   have hst := hT.stay hTup hto62 (.inr ⟨l, s, hf, by omega⟩)
   refine At.exit (az (dM Z (ay (ar (At.then (At.seq (At.region (L.mv Z Z (L.mv Z Z (aR Z Z (aI 0 Z Z Z (L.val Z (aa Z Z) (ag (fU _ _ _ _ _)) (L.mv Z Z (L.pure Z (ny (r := (up : Int)) Z Z (by omega)) (aR Z Z (aI 0 Z Z Z (L.st Z Z Z Z (by rw [ew]; omega) ?_)))))))))))))))))
   rw [iE, lW]
   refine L.nil (At.then (At.seq (At.region (L.val Z (ao (vs := fL ⟨0, 0, 0⟩) Z Z Z Z) (aw Z) ?_))))
   refine L.op Z (aK Z (m := 3) Z Z Z Z (by simp [Value.oneCell']) (by first | decide | (simp [Value.cells]; done) | (simp [Value.cells]; omega)) ?_)
   refine L.as Z Z (L.as Z Z (L.nil (At.then (At.ret ?_))))
   skip
   have hall : ∀ y ∈ S.tms.map FK.kd, up < y.2 := fun y hy => by
    rw [← hkd] at hy
    obtain ⟨u, hu, rfl⟩ := List.mem_map.1 hy
    exact hst.2 u hu
   exact ir [_] rfl (bZ (vs := fL ⟨0, 0, 0⟩) Z Z Z Z (aw Z)) (Res.tmp Z) (Res.tmp Z) (.inr ⟨{ T with now := up }, hall, hkd, hst.1, rfl, hTsq, rfl, rfl⟩) (Ent.drop.trans (cu (S := { T with now := up }) (sl := sl) (mp := mp)))
  ·
   refine At.skip (At.then (At.seq (At.region (L.mv Z Z (L.mv Z Z (L.mv Z Z (aR Z Z (aI 0 Z Z Z (L.val Z (aa Z Z) (ag (fU _ _ _ _ _)) (L.pure Z (ny (r := ((max (FK.bx T.now l s) T.now : Nat) : Int)) Z Z (by omega)) (aR Z Z (aI 0 Z Z Z (L.st Z Z Z Z (by rw [ew]; omega) ?_)))))))))))))
   rw [iE, lW]
   refine L.nil (At.then (At.seq (At.seq (At.region (L.mv Z Z (L.pure Z (aH Z Z Z) (L.nil (At.then ?_))))))))
   refine aE Z (fun c54 => ?_) (fun c54 => ?_)
   ·
    obtain rfl : l = 0 := by omega
    obtain ⟨a, t, b, hS, h0, hdue, hmin⟩ := hT.head0 hf
    have hT1 := (hT.to0 hf).1
    have htm : t ∈ T.tms := by rw [hS]; simp
    obtain ⟨mx, hmx⟩ : ∃ mx, mx = max (FK.bx T.now 0 s) T.now := ⟨_, rfl⟩
    rw [← hmx] at hT1 hdue ⊢
    refine At.ent (l' := cK (sl (64 * 0 + s)) (T.bs (64 * 0 + s)) :: hY sl T.bs (64 * 0 + s) :: blk w 337 (wc (dB mx T.seq sl T.us mp)) :: iB T.tms :: bP gE mp (gF T.tms) :: blk b4 268 (Ah ⟨0, 0, 0⟩) :: fr) ((Ent.perm (List.Perm.swap _ _ _)).trans ((jm hk7).trans (Ent.refl _))) ?_
    refine aC .head ?_
    intro A c hA hnil hform hc1 hc2 _
    rw [hA]
    obtain ⟨g, rfl⟩ : ∃ g, A = some ⟨g, 0, none⟩ := by
     cases A with
     | none => have := (hnil rfl).1; omega
     | some ad => obtain ⟨g, rfl⟩ := hform ad rfl; exact ⟨g, rfl⟩
    refine At.seq (At.region (L.mv Z Z (L.mv Z Z (aR Z Z (aI 2 Z Z Z (L.pure Z (dC (i := 0) (z := 64) (o' := 2) Z Z Z Z (by omega) (by omega)) (L.pure Z (dC (i := s) (z := 1) (o' := 2 + (64 * 0 + s)) Z Z Z Z hs (by omega)) (L.val Z (aa (v := .slice (some ⟨g, 0, none⟩) (T.bs (64 * 0 + s)).length c) Z Z) (ag (by rw [gM _ _ _ _ _ hk7, hA])) (L.pure Z (aT (i := 0) (z := 1) Z Z Z Z hlen0) (L.val Z (aa (v := aO t.blk) Z Z) (bJ .head (by simpa using h0)) (L.as Z Z (L.nil (At.then (At.seq (At.region (L.mv Z Z (L.mv Z Z (aR Z Z (aI 0 Z Z Z ?_)))))))))))))))))))
    refine L.val Z (ao (vs := fL t.key) Z Z Z Z) (tmKey (.tail (.tail (.tail (.head)))) htm) ?_
    refine L.op Z (ah Z Z Z hE (pX (S := { T with now := mx }) (t := t) w hT1 hS hTln) ((oS hk7 hA).trans ((Ent.perm (List.Perm.swap _ _ _)).trans (cu (S := { T with now := mx }) (sl := sl) (mp := mp)))) ?_)
    rintro v m ⟨rfl, rfl⟩
    refine aJ (L.nil (At.then (At.seq (Dr.start Z (dP 0 Z Z (ae Z) (dP 1 Z Z (am Z) (dP 2 Z Z (ab (off := 0) Z Z) (dL 3 Z Z (ao (vs := fL t.key) Z Z Z Z) (vg (vI t)) (dP 4 Z Z (ae Z) (dP 5 Z Z (am Z) (dP 6 Z Z (ab (off := 3) Z Z) (dL 7 Z Z (aa Z Z) (ag Z) ?_))))))))))))
    refine dR 8 Z Z (aK Z (m := 3) Z Z Z Z (by simp [Value.oneCell']) (by first | decide | (simp; done) | (simp [Value.cells]; omega)) ?_)
    refine dK [true, false] (Kept.cons (ag Z) Kept.nil) (dP 9 Z Z (ax Z) (dP 10 Z Z (ax Z) (dE (At.then (At.ret (aG (aB (cp (aB (aG ?_))))))))))
    exact ir [_] rfl (bZ (vs := fL t.key) Z Z Z Z (aw Z)) (Res.tmp Z) (Res.tmp Z) (.inl ⟨({ T with now := mx } : FK.WS).drop a t b, FK.kd t, hkd ▸ hmin, (by show t.due ≤ up; omega), hT1.drop hS, hdue.symm, hTsq, rfl, rfl⟩) (Ent.drop.trans (Ent.cons Ent.drop))
   ·
    have hl1 : 1 ≤ l := by omega
    obtain ⟨hmx, hT2⟩ := hT.toL hl1 hf
    have hC := FK.Casc.begin hT hl1 hf
    have hsl : (T.bs (64 * l + s)).length ≤ 100000 := nI hT (by omega) hk7
    rw [hmx]
    refine At.ent (l' := cK (sl (64 * l + s)) (T.bs (64 * l + s)) :: hY sl T.bs (64 * l + s) :: blk w 337 (wc (dB (FK.bx T.now l s) T.seq sl T.us mp)) :: iB T.tms :: bP gE mp (gF T.tms) :: blk b4 268 (Ah ⟨0, 0, 0⟩) :: fr) ((Ent.perm (List.Perm.swap _ _ _)).trans ((jm hk7).trans (Ent.refl _))) ?_
    refine aC .head ?_
    intro A c hA hnil hform hc1 hc2 _
    rw [hA]
    obtain ⟨g, rfl⟩ : ∃ g, A = some ⟨g, 0, none⟩ := by
     cases A with
     | none => have := (hnil rfl).1; omega
     | some ad => obtain ⟨g, rfl⟩ := hform ad rfl; exact ⟨g, rfl⟩
    refine At.skip (At.then (At.seq (At.region (L.mv Z Z (L.mv Z Z (L.mv Z Z (aR Z Z (aI 2 Z Z Z (L.pure Z (dC (i := l) (z := 64) (o' := 2 + 64 * l) Z Z Z Z hl (by omega)) (L.pure Z (dC (i := s) (z := 1) (o' := 2 + (64 * l + s)) Z Z Z Z hs (by omega)) (L.val Z (aa (v := .slice (some ⟨g, 0, none⟩) (T.bs (64 * l + s)).length c) Z Z) (ag (by rw [gM _ _ _ _ _ hk7, hA])) (L.as Z Z (L.nil (At.then (At.seq (At.region (L.mv Z Z (L.mv Z Z (L.mv Z Z ?_)))))))))))))))))))
    refine aR Z Z (aI 2 Z Z Z (L.pure Z (dC (i := l) (z := 64) (o' := 2 + 64 * l) Z Z Z Z hl (by omega)) (L.pure Z (dC (i := s) (z := 1) (o' := 2 + (64 * l + s)) Z Z Z Z hs (by omega)) (L.st Z Z Z Z (by rw [ew]; omega) ?_))))
    rw [iE, kM _ _ _ _ _ hk7]
    refine L.nil (At.then (At.seq (Dr.start Z (dP 0 Z Z (ae Z) (dP 1 Z Z (ae Z) (dP 2 Z Z (am Z) (dP 3 Z Z (ab (off := 706) Z Z) (dP 4 Z Z (dC (i := l) (z := 1) (o' := 706 + l) Z Z Z Z hl (by omega)) (dL 5 Z Z (aa Z Z) (ag (j9 _ _ _ _ _ hl)) (dP 6 Z Z (ae Z) (dP 7 Z Z (jI (r := ((2 ^ s : Nat) : Int)) Z Z (by omega) (qt hs)) (dP 8 Z Z (pU (r := ((FK.clr (T.us l) s : Nat) : Int)) Z Z (vT (hT.uslt l hl) hs)) (dP 9 Z Z (am Z) (dP 10 Z Z (ab (off := 706) Z Z) (dP 11 Z Z (dC (i := l) (z := 1) (o' := 706 + l) Z Z Z Z hl (by omega)) ?_)))))))))))))))
    refine dR 12 Z Z (bB Z Z Z Z Z (by rw [ew]; omega) ?_)
    rw [iE, kL _ _ _ _ _ hl]
    refine dK [false] Kept.nil (dE (At.then (At.seq ?_)))
    refine At.ent (l' := cK (.slice (some ⟨g, 0, none⟩) (T.bs (64 * l + s)).length c) (T.bs (64 * l + s)) :: bD w (({ T with now := FK.bx T.now l s } : FK.WS).clear l s) :: blk b4 268 (Ah ⟨0, 0, 0⟩) :: fr) ((Ent.sel (.tail (.head))).trans (Ent.cons ((Ent.sel (.tail (.head))).trans (Ent.row0.trans ((gh hk7).trans ((Ent.perm (List.Perm.swap _ _ _)).trans (cu (S := ({ T with now := FK.bx T.now l s } : FK.WS).clear l s) (sl := dQ sl (64 * l + s) _) (mp := mp)))))))) ?_
    refine At.region (L.mv Z Z (L.pure Z (aM Z Z) (L.mv Z Z (L.nil (At.then (At.block ?_))))))
    refine bk (X := FK.WS × Nat) (fun p => [(107, .int .i64 p.2), (106, .int .i64 (T.bs (64 * l + s)).length), (105, .slice (some ⟨g, 0, none⟩) (T.bs (64 * l + s)).length c), (0, aO w), (1, .int .u64 up), (4, aO b4)]) (fun p => cK (.slice (some ⟨g, 0, none⟩) (T.bs (64 * l + s)).length c) (T.bs (64 * l + s)) :: bD w p.1 :: blk b4 268 (Ah ⟨0, 0, 0⟩) :: fr) (fun p => p.2 ≤ (T.bs (64 * l + s)).length ∧ FK.Casc p.1 l ((T.bs (64 * l + s)).drop p.2) ∧ p.1.now = FK.bx T.now l s ∧ p.1.seq = S.seq ∧ p.1.tms.map FK.kd = S.tms.map FK.kd) (fun p => (T.bs (64 * l + s)).length - p.2) (({ T with now := FK.bx T.now l s } : FK.WS).clear l s, 0) ⟨Nat.zero_le _, hC, rfl, hTsq, hkd⟩ ⟨rfl, rfl, rfl, rfl, rfl, rfl, trivial⟩ (Ent.refl _) ?_
    rintro ⟨U, i⟩ ⟨hi, hCU, hUn, hUsq, hUkd⟩
    replace hi : i ≤ (T.bs (64 * l + s)).length := hi
    replace hCU : FK.Casc U l ((T.bs (64 * l + s)).drop i) := hCU
    replace hUn : U.now = FK.bx T.now l s := hUn
    replace hUsq : U.seq = S.seq := hUsq
    replace hUkd : U.tms.map FK.kd = S.tms.map FK.kd := hUkd
    refine At.seq (At.region (L.pure Z (bl Z Z Z) (L.nil (At.then (At.seq ?_)))))
    refine aE Z (fun c108 => ?_) (fun c108 => ?_)
    ·
     have hlt : i < (T.bs (64 * l + s)).length := by omega
     obtain ⟨x, hx⟩ : ∃ x, (T.bs (64 * l + s))[i]? = some x := ⟨(T.bs (64 * l + s))[i], by simp [hlt]⟩
     have hdr : (T.bs (64 * l + s)).drop i = x :: (T.bs (64 * l + s)).drop (i + 1) := by
      rw [List.drop_eq_getElem_cons hlt]
      rw [List.getElem?_eq_getElem hlt] at hx
      injection hx with hx
      rw [hx]
     rw [hdr] at hCU
     obtain ⟨a, t, b, hUS, rfl, hlow, hC'⟩ := hCU.step
     have hUln : U.tms.length ≤ 99999 := by rw [yw hUkd]; exact hln
     refine At.skip (At.then (At.seq (At.block (At.seq (At.region (L.pure Z (aT (z := 1) Z Z Z Z hlt) (L.val Z (aa (v := aO t.blk) Z Z) (bJ .head (by simp [hx])) (L.as Z Z (L.nil (At.then (At.region (L.mv Z Z (L.mv Z Z ?_)))))))))))))
     refine L.op Z (ah Z Z Z hE (rB w hCU.inv hUS (by omega) hUln hlow) (Ent.sel (.tail (.head))) ?_)
     rintro v m ⟨rfl, rfl⟩
     refine ai (L.nil (an (At.then (At.region (L.pure Z (aS (r := ((i + 1 : Nat) : Int)) Z Z (by rw [dd (by omega)]; omega)) (L.mv Z Z (L.nil ?_)))))))
     exact At.round (U.put a t b, i + 1) ⟨by show i + 1 ≤ _; omega, hC', hUn, hUsq, (Cp hUS).trans hUkd⟩ (by show _ - (i + 1) < _ - i; omega) ⟨rfl, rfl, rfl, rfl, rfl, rfl, trivial⟩ (Ent.perm (List.Perm.swap _ _ _))
    ·
     obtain rfl : i = (T.bs (64 * l + s)).length := by omega
     rw [List.drop_length] at hCU
     refine At.exit (az (ay (ar (an ?_))))
     exact At.round (U, l) ⟨hCU.inv, (by show U.now ≤ up; omega), hUsq, hUkd, .inr (by obtain ⟨t, ht, h1⟩ := hCU.some; exact ⟨t, ht, h1.resolve_left (by simp)⟩)⟩ hlB ⟨rfl, rfl, rfl, trivial⟩ Ent.drop
end
end Go.Proofs.YtmeegfamopaljaaGreatDoor
