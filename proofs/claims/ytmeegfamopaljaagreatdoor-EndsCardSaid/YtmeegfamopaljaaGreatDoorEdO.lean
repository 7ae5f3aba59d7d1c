/- The engine in memory: runs, tasks, queue, timers. -/
import Derived.Test.YtmeegfamopaljaaGreatDoorEdN
import Derived.Test.YtmeegfamopaljaaGreatDoorEdB
import Derived.Scope
namespace Go.Proofs.YtmeegfamopaljaaGreatDoor
open Go Go.RowKit Go.SL
variable {G : Env → Prop}
class HasRing (e : Nat) (l : List HP) (C : outParam EC) (q : outParam (List FK.Pl)) (r : outParam (List HP)) : Prop where
 sel : Sel (cD e C q) l r
instance HasRing.head {e : Nat} {C : EC} {q : List FK.Pl} {l : List HP} : HasRing e (cD e C q :: l) C q l := ⟨.head⟩
instance (priority := low) HasRing.tail {e : Nat} {C : EC} {q : List FK.Pl} {l r : List HP} {p : HP} [h : HasRing e l C q r] : HasRing e (p :: l) C q (p :: r) := ⟨.tail h.sel⟩
class HasMap {K : Type} (enc : K → Value) (b : Nat) (l : List HP) (m : outParam (List (K × Value))) (r : outParam (List HP)) : Prop where
 sel : Sel (bF enc b m) l r
instance HasMap.head {K : Type} {enc : K → Value} {b : Nat} {m : List (K × Value)} {l : List HP} : HasMap enc b (bF enc b m :: l) m l := ⟨.head⟩
instance (priority := low) HasMap.tail {K : Type} {enc : K → Value} {b : Nat} {m : List (K × Value)} {l r : List HP} {p : HP} [h : HasMap enc b l m r] : HasMap enc b (p :: l) m (p :: r) := ⟨.tail h.sel⟩
class HasRow (g : Nat) (l : List HP) (e : outParam TypeId) (size n m c : outParam Nat) (xs : outParam (List Value)) (r : outParam (List HP)) : Prop where
 sel : Sel (row e size (.slice (some ⟨g, 0, none⟩) n c) m xs) l r
instance HasRow.head {g : Nat} {e : TypeId} {size n m c : Nat} {xs : List Value} {l : List HP} : HasRow g (row e size (.slice (some ⟨g, 0, none⟩) n c) m xs :: l) e size n m c xs l := ⟨.head⟩
instance (priority := low) HasRow.tail {g : Nat} {e : TypeId} {size n m c : Nat} {xs : List Value} {l r : List HP} {p : HP} [h : HasRow g l e size n m c xs r] : HasRow g (p :: l) e size n m c xs (p :: r) := ⟨.tail h.sel⟩
section
variable {E : Env} {l : List HP}
theorem yF {e i : Nat} {C : EC} {q : List FK.Pl} {r : List HP} {v : Value} [h : HasRing e l C q r] (hv : ∀ rv f n, (pR C rv f n)[i]? = some v) : ∀ w, Holds E w l → bI ⟨e, i, none⟩ v w := fun w hw => by
 obtain ⟨F1, _, _, _, _, hp, _⟩ := (hw.sel h.sel).star
 obtain ⟨⟨rv, N, f, rg⟩, G1, G2, _, _, _, _, G3, G4, _, _, _, hb, _⟩ := hp
 have := hb.2
 simp only [bI, World.cell?, this]
 exact hv _ _ _
end
theorem y7 {P : Program} {E : Env} {n : Nat} {D : List Deferred} {ts : List (Nat × Value)} {l r : List HP} {Q : Exit → Act → World → Prop} {ty : TypeId} {pos : String} {af : Array Edge} {g : Option (Nat × Bool)} {t : TypeId} {x y : Operand} {e i : Nat} {C C' : EC} {q : List FK.Pl} {v : Value} {K : Act → World → Prop} [h : HasRing e l C q r]
 (hz : bZ P t 1) (hx : ev ts x = some (.pointer (some ⟨e, i, none⟩))) (hy : ev ts y = some v) (hv : v.oneCell' = true) (hi : i < 10) (hC : ∀ rv f n, (pR C rv f n).setIfInBounds i v = pR C' rv f n) (hk : At E n D ts (cD e C' q :: r) K) : At E n D ts l (fun a w => (Oper.mk none (.store t x y) ty pos af g).wp P a w K Q) := by
 refine At.ex h.sel fun ⟨rv, N, f, rg⟩ => ?_
 refine bn ?_
 show At E n D ts (HP.pure (FK.RingOk N f q rg) :: kG e C rv f q.length :: row 268 3 rv N (rV N rg) :: r) _
 refine At.pure .head fun hR => ?_
 refine bC (b := e) (cs := pR C rv f q.length) Z hz hx hy hv (by simpa using hi) ?_
 rw [hC]
 exact At.ent (eU hR) hk
abbrev bc (n : Nat) : Value := .int .u64 (n : Int)
theorem dD : KeyK Tryz.prog 51 Nat bc := Cb (by kernel_rfl)
abbrev pN (s : FK.Sp) : List Value := [.int .i64 s.state, .int .i64 s.tries, .int .u64 s.token]
def pM (l : List FK.Sp) : List Value := l.flatMap pN
theorem kH (l : List FK.Sp) : (pM l).length = l.length * 3 := dY (k := 3) (fun _ => rfl) l
theorem pU {l : List FK.Sp} {i : Nat} {s : FK.Sp} (h : l[i]? = some s) (j : Nat) (u : Value) (hu : (pN s)[j]? = some u) : (pM l)[0 + i * 3 + j]? = some u := by
 rw [Nat.zero_add]
 exact gT (k := 3) (fun _ => rfl) j h hu
theorem Cf : fx Tryz.prog 265 (.agg #[.int .i64 0, .int .i64 0, .int .u64 0]) 3 24 := by unfold fx; kernel_rfl
theorem pz {α : Type} {f : α → List Value} (hf : ∀ x, (f x).length = 3) {l : List α} {L : List Value} (hl : L.length = l.length * 3) (h : ∀ i x j u, l[i]? = some x → (f x)[j]? = some u → L[i * 3 + j]? = some u) : L = l.flatMap f := by
 apply List.ext_getElem?
 intro k
 by_cases hk : k < l.length * 3
 · have h1 : k / 3 < l.length := by omega
   have h2 : k % 3 < 3 := Nat.mod_lt _ (by omega)
   have h0 : l[k / 3]? = some l[k / 3] := List.getElem?_eq_getElem h1
   have h3 : (f l[k / 3])[k % 3]? = some ((f l[k / 3])[k % 3]'(by rw [hf]; exact h2)) := List.getElem?_eq_getElem _
   have h4 := h (k / 3) _ (k % 3) _ h0 h3
   have h5 := gT hf (k % 3) h0 h3
   rw [show k / 3 * 3 + k % 3 = k by omega] at h4 h5
   rw [h4, h5]
 · rw [List.getElem?_eq_none (by omega), List.getElem?_eq_none (by rw [dY hf]; omega)]
theorem Aq {l : List FK.Sp} {i : Nat} (hi : i < l.length) (s : FK.Sp) : ip (pM l) (0 + i * 3) (pN s) = pM (l.set i s) := by
 refine pz (fun _ => rfl) (by rw [er, kH, List.length_set]) fun k x j u hx hu => ?_
 have hj : j < 3 := by have := (List.getElem?_eq_some_iff.1 hu).1; simpa using this
 by_cases h : k = i
 · subst h
   rw [List.getElem?_set_self hi] at hx
   injection hx with hx
   subst hx
   rw [show k * 3 + j = (0 + k * 3) + j by omega]
   exact kL (pN s) (pM l) (0 + k * 3) j u (by rw [kH]; simp; omega) hu
 · rw [List.getElem?_set_ne (Ne.symm h)] at hx
   rw [f7 _ _ _ _ (by simp; omega)]
   have := pU hx j u hu
   rwa [Nat.zero_add] at this
theorem nn {l : List FK.Sp} {i : Nat} {s s' : FK.Sp} (hs : l[i]? = some s) {j : Nat} (hj : j < 3) {v : Value} (h : (pN s).set j v = pN s') : (pM l).set (0 + i * 3 + j) v = pM (l.set i s') := by
 have hi := (List.getElem?_eq_some_iff.1 hs).1
 refine pz (fun _ => rfl) (by rw [List.length_set, kH, List.length_set]) fun k x m u hx hu => ?_
 have hm : m < 3 := by have := (List.getElem?_eq_some_iff.1 hu).1; simpa using this
 by_cases hk : k = i
 · subst hk
   rw [List.getElem?_set_self hi] at hx
   injection hx with hx
   subst hx
   rw [← h] at hu
   by_cases hmj : m = j
   · subst hmj
     rw [List.getElem?_set_self (by simpa using hm)] at hu
     rw [show 0 + k * 3 + m = k * 3 + m by omega, List.getElem?_set_self (by rw [kH]; omega)]
     exact hu
   · rw [List.getElem?_set_ne (Ne.symm hmj)] at hu
     rw [List.getElem?_set_ne (by omega)]
     have := pU hs m u hu
     rwa [Nat.zero_add] at this
 · rw [List.getElem?_set_ne (Ne.symm hk)] at hx
   rw [List.getElem?_set_ne (by omega)]
   have := pU hx m u hu
   rwa [Nat.zero_add] at this
abbrev dJ (vs : List Value) (l : List FK.Node) : HP := HP.all (bB vs l)
structure RA where
 gn : Nat
 cn : Nat
 gs : Nat
 cs : Nat
 vs : List Value
abbrev RA.nv (a : RA) (R : FK.Rn) : Value := .slice (some ⟨a.gn, 0, none⟩) R.fl.nodes.length a.cn
abbrev RA.sv (a : RA) (R : FK.Rn) : Value := .slice (some ⟨a.gs, 0, none⟩) R.steps.length a.cs
abbrev tf (a : RA) (R : FK.Rn) : Array Value := #[.int .i64 R.fl.deadline, a.nv R, .int .i64 R.state, a.sv R, .int .u64 R.ended]
abbrev tg (rb : Nat) (a : RA) (R : FK.Rn) : HP := blk rb 263 (tf a R)
abbrev lD (rb : Nat) (a : RA) (R : FK.Rn) : List HP := [HP.pure (a.vs.length = R.fl.nodes.length), tg rb a R, row 46 7 (a.nv R) R.fl.nodes.length (bl R.fl.nodes a.vs), dJ a.vs R.fl.nodes, row 265 3 (a.sv R) R.steps.length (pM R.steps)]
def io (rb : Nat) (a : RA) (R : FK.Rn) : HP := HP.all (lD rb a R)
structure EA where
 rm : Nat
 tm : Nat
 w : Nat
 fb : Nat → Nat
 ra : Nat → RA
structure WOk (now sets : Nat) (tms : List FK.KD) (W : FK.WS) : Prop where
 now : W.now = now
 seq : W.seq ≤ sets
 inv : FK.Inv W []
 tms : W.tms.map FK.kd = tms
def cv (w now sets : Nat) (tms : List FK.KD) : HP := HP.ex fun W : FK.WS => HP.all [HP.pure (WOk now sets tms W), bw w W]
abbrev cJ (S : FK.En) : Prop := (S.runs.map (·.1)).Nodup
abbrev hY (S : FK.En) (p : EA) : EC := ⟨S.seed, p.rm, p.tm, p.w, S.lastRun, S.lastToken, S.ends⟩
abbrev dw (S : FK.En) (p : EA) : List (Nat × Value) := S.runs.map fun r => (r.1, aL (p.fb r.1))
abbrev cm (S : FK.En) : List (Nat × Value) := S.tasks.map fun t => (t.1, fZ t.2)
abbrev eI (p : EA) (l : List (Nat × FK.Rn)) : List HP := l.map fun r => io (p.fb r.1) (p.ra r.1) r.2
def d9 (p : EA) (l : List (Nat × FK.Rn)) : HP := HP.all (eI p l)
abbrev iC (e : Nat) (p : EA) (S : FK.En) : List HP := [HP.pure (cJ S), cD e (hY S p) S.queue, bF bc p.rm (dw S p), d9 p S.runs, bF bc p.tm (cm S), cv p.w S.now S.sets S.tms]
def ap (e : Nat) (p : EA) (S : FK.En) : HP := HP.all (iC e p S)
class HasEng (l : List HP) (e : outParam Nat) (p : outParam EA) (S : outParam FK.En) (r : outParam (List HP)) : Prop where
 sel : Sel (ap e p S) l r
instance HasEng.head {e : Nat} {p : EA} {S : FK.En} {l : List HP} : HasEng (ap e p S :: l) e p S l := ⟨.head⟩
instance (priority := low) HasEng.tail {e : Nat} {p : EA} {S : FK.En} {l r : List HP} {x : HP} [h : HasEng l e p S r] : HasEng (x :: l) e p S (x :: r) := ⟨.tail h.sel⟩
theorem nz {S : FK.En} {id : Nat} {R : FK.Rn} (h : S.getR id = some R) : (id, R) ∈ S.runs := by
 unfold FK.En.getR at h
 cases hf : S.runs.find? (·.1 == id) with
 | none => rw [hf] at h; cases h
 | some x =>
  rw [hf] at h
  injection h with h
  have h1 := List.find?_some hf
  have h2 := List.mem_of_find?_eq_some hf
  obtain ⟨a, b⟩ := x
  have : a = id := by simpa using h1
  subst this
  have : b = R := h
  subst this
  exact h2
theorem tp {w : World} {F : Nat → Prop} {t : TypeId} {size m g o c : Nat} {xs vs : List Value} (h : (row t size (.slice (some ⟨g, 0, none⟩) m c) m xs).sat w F) (hv : ∀ j u, vs[j]? = some u → xs[o + j]? = some u) : gK g o vs w := fun j v hj => by
 have := h.1.cells (g := g) rfl (o + j) v (hv j v hj)
 rwa [add_plain, Nat.zero_add] at this
class SeesEng (l : List HP) (e : outParam Nat) (p : outParam EA) (S : outParam FK.En) : Prop where
 star : ∀ {E : Env} {w : World}, Holds E w l → ∃ F, Star w (iC e p S) F
instance SeesEng.has {e : Nat} {p : EA} {S : FK.En} {l r : List HP} [h : HasEng l e p S r] : SeesEng l e p S := ⟨fun hw => by
 obtain ⟨F1, _, _, _, _, hp, _⟩ := (hw.sel h.sel).star
 exact ⟨F1, hp⟩⟩
instance (priority := low) SeesEng.head {n e : Nat} {p : EA} {S : FK.En} {l : List HP} : SeesEng (SL.under n (ap e p S) :: l) e p S := ⟨fun hw => by
 obtain ⟨F1, _, _, _, _, hp, _⟩ := hw.star
 exact ⟨_, hp⟩⟩
instance (priority := low) SeesEng.tail {e : Nat} {p : EA} {S : FK.En} {l : List HP} {x : HP} [h : SeesEng l e p S] : SeesEng (x :: l) e p S := ⟨fun hw => h.star (hw.ent Ent.drop)⟩
section
variable {E : Env} {l : List HP} {e : Nat} {p : EA} {S : FK.En} [H : SeesEng l e p S]
include H
theorem jA {w : World} (hw : Holds E w l) : ∃ F, Star w (iC e p S) F := H.star hw
theorem kq {w : World} (hw : Holds E w l) : cJ S := by
 obtain ⟨F, h⟩ := jA (H := H) hw
 have := Star.mem (p := HP.pure (cJ S)) h (by simp)
 exact this
theorem aQ {i : Nat} {v : Value} (hv : ∀ rv f n, (pR (hY S p) rv f n)[i]? = some v) : ∀ w, Holds E w l → bI ⟨e, i, none⟩ v w := fun w hw => by
 obtain ⟨F, h⟩ := jA (H := H) hw
 obtain ⟨⟨rv, N, f, rg⟩, h1⟩ := Star.mem (p := cD e (hY S p) S.queue) h (by simp)
 have h2 : (kG e (hY S p) rv f S.queue.length).sat w F := Star.mem (l := [HP.pure (FK.RingOk N f S.queue rg), kG e (hY S p) rv f S.queue.length, row 268 3 rv N (rV N rg)]) h1 (by simp)
 have := h2.2
 simp only [bI, World.cell?, this]
 exact hv _ _ _
theorem cS : ∀ w, Holds E w l → gr bc p.rm (dw S p) w := fun w hw => by
 obtain ⟨F, h⟩ := jA (H := H) hw
 exact (Star.mem (p := bF bc p.rm (dw S p)) h (by simp)).2
theorem xt {S0 : FK.En} (h : S.runs = S0.runs) : ∀ w, Holds E w l → gr bc p.rm (dw S0 p) w := fun w hw => by
 have := cS (H := H) w hw
 unfold dw at this
 rw [h] at this
 exact this
theorem j9 : ∀ w, Holds E w l → gr bc p.tm (cm S) w := fun w hw => by
 obtain ⟨F, h⟩ := jA (H := H) hw
 exact (Star.mem (p := bF bc p.tm (cm S)) h (by simp)).2
theorem iE {id : Nat} {R : FK.Rn} (hR : S.getR id = some R) {w : World} (hw : Holds E w l) : ∃ F, Star w (lD (p.fb id) (p.ra id) R) F := by
 obtain ⟨F, h⟩ := jA (H := H) hw
 have h1 : Star w (eI p S.runs) F := Star.mem (p := d9 p S.runs) h (by simp)
 have h2 : (io (p.fb id) (p.ra id) R).sat w F := Star.mem (l := eI p S.runs) h1 (List.mem_map.2 ⟨(id, R), nz hR, rfl⟩)
 exact ⟨F, h2⟩
theorem yl {id : Nat} {R : FK.Rn} (hR : S.getR id = some R) {w : World} (hw : Holds E w l) : (p.ra id).vs.length = R.fl.nodes.length := by
 obtain ⟨F, h⟩ := iE (H := H) hR hw
 have := Star.mem (p := HP.pure ((p.ra id).vs.length = R.fl.nodes.length)) h (by simp)
 exact this
theorem bN {id i : Nat} {R : FK.Rn} {v : Value} (hR : S.getR id = some R) (hv : (tf (p.ra id) R)[i]? = some v) : ∀ w, Holds E w l → bI ⟨p.fb id, i, none⟩ v w := fun w hw => by
 obtain ⟨F, h⟩ := iE (H := H) hR hw
 have h2 : (tg (p.fb id) (p.ra id) R).sat w F := Star.mem h (by simp)
 have := h2.2
 simp only [bI, World.cell?, this]
 exact hv
theorem rp {id k : Nat} {R : FK.Rn} {s : FK.Sp} (hR : S.getR id = some R) (hs : R.steps[k]? = some s) : ∀ w, Holds E w l → gK (p.ra id).gs (0 + k * 3) (pN s) w := fun w hw => by
 obtain ⟨F, h⟩ := iE (H := H) hR hw
 exact tp (Star.mem (p := row 265 3 ((p.ra id).sv R) R.steps.length (pM R.steps)) h (by simp)) (fun j u hj => pU hs j u hj)
theorem dW {id k j : Nat} {R : FK.Rn} {s : FK.Sp} {v : Value} (hR : S.getR id = some R) (hs : R.steps[k]? = some s) (hv : (pN s)[j]? = some v) : ∀ w, Holds E w l → bI ⟨(p.ra id).gs, 0 + k * 3 + j, none⟩ v w := fun w hw => by
 have := rp (H := H) hR hs w hw j v hv
 exact this
theorem de {id k : Nat} {R : FK.Rn} {nd : FK.Node} {u : Value} (hR : S.getR id = some R) (hn : R.fl.nodes[k]? = some nd) (hu : (p.ra id).vs[k]? = some u) : ∀ w, Holds E w l → gK (p.ra id).gn (0 + k * 7) (aw nd u) w := fun w hw => by
 obtain ⟨F, h⟩ := iE (H := H) hR hw
 exact tp (Star.mem (p := row 46 7 ((p.ra id).nv R) R.fl.nodes.length (bl R.fl.nodes (p.ra id).vs)) h (by simp)) (fun j v hj => by
  have hj7 : j < 7 := by have := (List.getElem?_eq_some_iff.1 hj).1; simpa [aw] using this
  rw [Nat.zero_add, iN _ _ _ _ _ _ (yl (H := H) hR hw) hn hu hj7]
  exact hj)
theorem jB {id k : Nat} {R : FK.Rn} {nd : FK.Node} (hR : S.getR id = some R) (hn : R.fl.nodes[k]? = some nd) {w : World} (hw : Holds E w l) : ∃ A c, (p.ra id).vs[k]? = some (.slice A nd.after.length c) ∧ (A = none → nd.after.length = 0 ∧ c = 0) ∧ (∀ ad, A = some ad → ∃ g, ad = ⟨g, 0, none⟩) ∧ nd.after.length ≤ c ∧ c ≤ maxLen := by
 have hv := yl (H := H) hR hw
 have hk := (List.getElem?_eq_some_iff.1 hn).1
 obtain ⟨u, hu⟩ : ∃ u, (p.ra id).vs[k]? = some u := ⟨(p.ra id).vs[k]'(by omega), by simp [hv, hk]⟩
 obtain ⟨F, h⟩ := iE (H := H) hR hw
 have h1 := Star.mem (p := dJ (p.ra id).vs R.fl.nodes) h (by simp)
 have hz : ((p.ra id).vs.zip R.fl.nodes)[k]? = some (u, nd) := by simp [List.getElem?_zip_eq_some, hn, hu]
 have h2 : (bh u nd.after).sat w F := Star.mem (l := bB (p.ra id).vs R.fl.nodes) h1 (List.mem_map.2 ⟨(u, nd), List.mem_of_getElem? hz, rfl⟩)
 obtain ⟨hlen, hown⟩ := h2.1
 rcases hown with ⟨rfl, h0⟩ | ⟨g, cap, cur, rfl, _, hg, hm, hc, hs, ht⟩
 · exact ⟨none, 0, by rw [hu, h0], fun _ => ⟨h0, rfl⟩, fun _ hx => (by cases hx), (by omega), Nat.zero_le _⟩
 · exact ⟨_, cap, hu, fun hx => (by cases hx), fun ad hx => (by injection hx with hx; exact ⟨g, hx.symm⟩), hm, hc⟩
theorem rY {id k j g c : Nat} {R : FK.Rn} {nd : FK.Node} {x : Int} (hR : S.getR id = some R) (hn : R.fl.nodes[k]? = some nd) (hu : (p.ra id).vs[k]? = some (.slice (some ⟨g, 0, none⟩) nd.after.length c)) (hx : nd.after[j]? = some x) : ∀ w, Holds E w l → bI ⟨g, 0 + j * 1, none⟩ (.int .i64 x) w := fun w hw => by
 obtain ⟨F, h⟩ := iE (H := H) hR hw
 have h1 := Star.mem (p := dJ (p.ra id).vs R.fl.nodes) h (by simp)
 have hz : ((p.ra id).vs.zip R.fl.nodes)[k]? = some (.slice (some ⟨g, 0, none⟩) nd.after.length c, nd) := by simp [List.getElem?_zip_eq_some, hn, hu]
 have h2 : (bh (.slice (some ⟨g, 0, none⟩) nd.after.length c) nd.after).sat w F := Star.mem (l := bB (p.ra id).vs R.fl.nodes) h1 (List.mem_map.2 ⟨_, List.mem_of_getElem? hz, rfl⟩)
 have h3 := tp (o := 0) (vs := cI nd.after) h2 (fun j u hj => by rwa [Nat.zero_add])
 have h4 := h3 j (.int .i64 x) (by simp [cI, hx])
 rwa [Nat.mul_one]
end
end Go.Proofs.YtmeegfamopaljaaGreatDoor

namespace Go.SL
open Go Go.RowKit
section
variable {P : Program} {G : Env → Prop}
theorem Does.part {f : FuncId} {args : Array Value} {pre pre' c : List HP} {R R' : Value → List HP → Prop} (h : Does P G f args pre R) (e : Ent pre' (pre ++ c)) (hR : ∀ v m, R v m → ∃ m', R' v m' ∧ Ent (m ++ c) m') : Does P G f args pre' R' := fun E w fr hE hw => by
 have h1 := (h.frame c).mono (R' := R') fun v m ⟨m', h1, h2⟩ => by subst h2; exact hR v m' h1
 exact h1 E w fr hE (hw.ent (e.append fr))
end
end Go.SL
namespace Go.Proofs.YtmeegfamopaljaaGreatDoor
open Go Go.RowKit Go.SL
variable {G : Env → Prop}
theorem setR_keys (S : FK.En) (id : Nat) (R : FK.Rn) : (S.setR id R).runs.map (·.1) = S.runs.map (·.1) := by
 unfold FK.En.setR
 simp only [List.map_map]
 refine List.map_congr_left fun x _ => ?_
 simp only [Function.comp_apply]
 split <;> rfl
theorem gY {S : FK.En} {id : Nat} {R : FK.Rn} (h : S.getR id = some R) (hn : cJ S) : ∃ a b, S.runs = a ++ (id, R) :: b ∧ ∀ R', (S.setR id R').runs = a ++ (id, R') :: b := by
 obtain ⟨a, b, hab⟩ := List.append_of_mem (nz h)
 refine ⟨a, b, hab, fun R' => ?_⟩
 have hn' := hn
 unfold cJ at hn'
 rw [hab, List.map_append, List.map_cons] at hn'
 have hd := List.nodup_append.1 hn'
 have ha : ∀ x ∈ a, (x.1 == id) = false := fun x hx => by
  have := hd.2.2 x.1 (List.mem_map_of_mem hx) id (by simp)
  simpa using this
 have hb : ∀ x ∈ b, (x.1 == id) = false := fun x hx => by
  have h1 := (List.nodup_cons.1 hd.2.1).1
  have : x.1 ≠ id := fun e => h1 (List.mem_map.2 ⟨x, hx, e⟩)
  simpa using this
 have ma : (a.map fun r => if r.1 == id then (r.1, R') else r) = a := by
  conv => rhs; rw [← List.map_id a]
  exact List.map_congr_left fun x hx => by simp [ha x hx]
 have mb : (b.map fun r => if r.1 == id then (r.1, R') else r) = b := by
  conv => rhs; rw [← List.map_id b]
  exact List.map_congr_left fun x hx => by simp [hb x hx]
 show S.runs.map _ = _
 rw [hab, List.map_append, List.map_cons, ma, mb]
 simp
theorem As {S : FK.En} {id : Nat} {R : FK.Rn} (h : cJ S) : cJ (S.setR id R) := by
 unfold cJ
 rw [setR_keys]
 exact h
theorem BV (S : FK.En) (id : Nat) (R : FK.Rn) (p : EA) : dw (S.setR id R) p = dw S p := by
 have h : ∀ l : List (Nat × FK.Rn), (l.map fun r => (r.1, aL (p.fb r.1))) = (l.map (·.1)).map fun k => (k, aL (p.fb k)) := fun l => by rw [List.map_map]; rfl
 unfold dw
 rw [h, h, setR_keys]
abbrev km (e : Nat) (p : EA) (S : FK.En) (a b : List (Nat × FK.Rn)) : List HP := [cD e (hY S p) S.queue, bF bc p.rm (dw S p), d9 p (a ++ b), bF bc p.tm (cm S), cv p.w S.now S.sets S.tms]
theorem il {e : Nat} {p : EA} {S : FK.En} {id : Nat} {R : FK.Rn} {a b : List (Nat × FK.Rn)} {r : List HP} (h : S.runs = a ++ (id, R) :: b) : Ent (ap e p S :: r) (lD (p.fb id) (p.ra id) R ++ (km e p S a b ++ r)) := by
 refine Ent.unall.trans ?_
 refine (Ent.drop (p := HP.pure (cJ S))).trans ?_
 have h1 : Ent (d9 p S.runs :: bF bc p.tm (cm S) :: cv p.w S.now S.sets S.tms :: r) (io (p.fb id) (p.ra id) R :: d9 p (a ++ b) :: bF bc p.tm (cm S) :: cv p.w S.now S.sets S.tms :: r) := by
  refine (Ent.unall (m := eI p S.runs)).trans ?_
  have hp : ((eI p S.runs) ++ (bF bc p.tm (cm S) :: cv p.w S.now S.sets S.tms :: r)).Perm (io (p.fb id) (p.ra id) R :: (eI p (a ++ b) ++ (bF bc p.tm (cm S) :: cv p.w S.now S.sets S.tms :: r))) := by
   rw [h]
   have h0 := (List.perm_middle (a := (id, R)) (l₁ := a) (l₂ := b)).map fun r => io (p.fb r.1) (p.ra r.1) r.2
   rw [List.map_cons] at h0
   exact h0.append_right _
  exact (Ent.perm hp).trans (Ent.cons (Ent.all (m := eI p (a ++ b))))
 refine (Ent.cons (Ent.cons h1)).trans ?_
 exact (Ent.sel (.tail (.tail .head))).trans (Ent.unall (m := lD (p.fb id) (p.ra id) R))
theorem gA {e : Nat} {p : EA} {S : FK.En} {id : Nat} {R' : FK.Rn} {a b : List (Nat × FK.Rn)} {r : List HP} (hn : cJ S) (h : (S.setR id R').runs = a ++ (id, R') :: b) : Ent (lD (p.fb id) (p.ra id) R' ++ (km e p S a b ++ r)) (ap e p (S.setR id R') :: r) := by
 refine (Ent.all (m := lD (p.fb id) (p.ra id) R')).trans ?_
 have h1 : Ent (io (p.fb id) (p.ra id) R' :: d9 p (a ++ b) :: bF bc p.tm (cm S) :: cv p.w S.now S.sets S.tms :: r) (d9 p (S.setR id R').runs :: bF bc p.tm (cm S) :: cv p.w S.now S.sets S.tms :: r) := by
  refine (Ent.cons (Ent.unall (m := eI p (a ++ b)))).trans ?_
  have hp : (io (p.fb id) (p.ra id) R' :: (eI p (a ++ b) ++ (bF bc p.tm (cm S) :: cv p.w S.now S.sets S.tms :: r))).Perm ((eI p (S.setR id R').runs) ++ (bF bc p.tm (cm S) :: cv p.w S.now S.sets S.tms :: r)) := by
   rw [h]
   have h0 := ((List.perm_middle (a := (id, R')) (l₁ := a) (l₂ := b)).map fun r => io (p.fb r.1) (p.ra r.1) r.2).symm
   rw [List.map_cons] at h0
   exact h0.append_right _
  exact (Ent.perm hp).trans (Ent.all (m := eI p (S.setR id R').runs))
 refine (bX (.tail .head) (.tail .head) .head).trans ((Ent.cons (Ent.cons h1)).trans ?_)
 refine (Ent.pure (As (id := id) (R := R') hn)).trans ?_
 have hm : bF bc p.rm (dw S p) = bF bc p.rm (dw (S.setR id R') p) := by rw [BV]
 rw [hm]
 exact Ent.all (m := iC e p (S.setR id R'))
section
variable {P : Program} {E : Env} {n : Nat} {D : List Deferred} {ts : List (Nat × Value)} {l r : List HP} {Q : Exit → Act → World → Prop} {ty : TypeId} {pos : String} {af : Array Edge} {g : Option (Nat × Bool)} {t : TypeId} {x y : Operand} {e : Nat} {p : EA} {S : FK.En} {K : Act → World → Prop} [H : HasEng l e p S r]
theorem iG {id k j o : Nat} {R : FK.Rn} {s s' : FK.Sp} {v : Value} (hR : S.getR id = some R) (hs : R.steps[k]? = some s) (hz : bZ P t 1) (hx : ev ts x = some (.pointer (some ⟨(p.ra id).gs, o, none⟩))) (hy : ev ts y = some v) (ho : o = 0 + k * 3 + j) (hj : j < 3) (hv : v.oneCell' = true) (hset : (pN s).set j v = pN s')
 (hk : At E n D ts (ap e p (S.setR id (R.setS k s')) :: r) K) : At E n D ts l (fun a w => (Oper.mk none (.store t x y) ty pos af g).wp P a w K Q) := by
 refine eC (p := cJ S) (fun w hw => kq hw) fun hn => ?_
 obtain ⟨a, b, hab, hset'⟩ := gY hR hn
 refine At.ent ((Ent.sel H.sel).trans (il hab)) ?_
 have hkl := (List.getElem?_eq_some_iff.1 hs).1
 refine fd (l := lD (p.fb id) (p.ra id) R ++ (km e p S a b ++ r)) (.tail (.tail (.tail (.tail .head)))) hz hx hy hv (by omega) ?_
 refine At.ent ?_ hk
 subst ho
 rw [nn hs hj hset]
 refine Ent.trans ?_ (gA hn (hset' (R.setS k s')))
 have hl : (R.setS k s').steps.length = R.steps.length := by simp [FK.Rn.setS]
 refine ((bX (.tail .head) (.tail .head) (.tail .head)).trans (Ent.cons (Ent.cons (Ent.cons (Ent.sel (.tail .head)))))).trans ?_
 show Ent (HP.pure ((p.ra id).vs.length = R.fl.nodes.length) :: tg (p.fb id) (p.ra id) R :: row 46 7 ((p.ra id).nv R) R.fl.nodes.length (bl R.fl.nodes (p.ra id).vs) :: dJ (p.ra id).vs R.fl.nodes :: row 265 3 ((p.ra id).sv R) R.steps.length (pM (R.steps.set k s')) :: (km e p S a b ++ r)) (HP.pure ((p.ra id).vs.length = R.fl.nodes.length) :: blk (p.fb id) 263 #[.int .i64 R.fl.deadline, (p.ra id).nv R, .int .i64 R.state, .slice (some ⟨(p.ra id).gs, 0, none⟩) (R.setS k s').steps.length (p.ra id).cs, .int .u64 R.ended] :: row 46 7 ((p.ra id).nv R) R.fl.nodes.length (bl R.fl.nodes (p.ra id).vs) :: dJ (p.ra id).vs R.fl.nodes :: row 265 3 (.slice (some ⟨(p.ra id).gs, 0, none⟩) (R.setS k s').steps.length (p.ra id).cs) (R.setS k s').steps.length (pM (R.steps.set k s')) :: (km e p S a b ++ r))
 rw [hl]
 exact Ent.refl _
theorem wK {id k o : Nat} {R : FK.Rn} {s s' : FK.Sp} (hR : S.getR id = some R) (hs : R.steps[k]? = some s) (hz : bZ P t 3) (hx : ev ts x = some (.pointer (some ⟨(p.ra id).gs, o, none⟩))) (hy : ev ts y = some (.agg (pN s').toArray)) (ho : o = 0 + k * 3)
 (hk : At E n D ts (ap e p (S.setR id (R.setS k s')) :: r) K) : At E n D ts l (fun a w => (Oper.mk none (.store t x y) ty pos af g).wp P a w K Q) := by
 refine eC (p := cJ S) (fun w hw => kq hw) fun hn => ?_
 obtain ⟨a, b, hab, hset'⟩ := gY hR hn
 refine At.ent ((Ent.sel H.sel).trans (il hab)) ?_
 have hkl := (List.getElem?_eq_some_iff.1 hs).1
 refine jE (l := lD (p.fb id) (p.ra id) R ++ (km e p S a b ++ r)) (vs := pN s') (.tail (.tail (.tail (.tail .head)))) hz rfl hx hy (by intro u hu; simp only [List.mem_cons, List.not_mem_nil, or_false] at hu; rcases hu with rfl | rfl | rfl <;> rfl) (by omega) ?_
 refine At.ent ?_ hk
 subst ho
 rw [Aq hkl]
 refine Ent.trans ?_ (gA hn (hset' (R.setS k s')))
 have hl : (R.setS k s').steps.length = R.steps.length := by simp [FK.Rn.setS]
 refine ((bX (.tail .head) (.tail .head) (.tail .head)).trans (Ent.cons (Ent.cons (Ent.cons (Ent.sel (.tail .head)))))).trans ?_
 show Ent (HP.pure ((p.ra id).vs.length = R.fl.nodes.length) :: tg (p.fb id) (p.ra id) R :: row 46 7 ((p.ra id).nv R) R.fl.nodes.length (bl R.fl.nodes (p.ra id).vs) :: dJ (p.ra id).vs R.fl.nodes :: row 265 3 ((p.ra id).sv R) R.steps.length (pM (R.steps.set k s')) :: (km e p S a b ++ r)) (HP.pure ((p.ra id).vs.length = R.fl.nodes.length) :: blk (p.fb id) 263 #[.int .i64 R.fl.deadline, (p.ra id).nv R, .int .i64 R.state, .slice (some ⟨(p.ra id).gs, 0, none⟩) (R.setS k s').steps.length (p.ra id).cs, .int .u64 R.ended] :: row 46 7 ((p.ra id).nv R) R.fl.nodes.length (bl R.fl.nodes (p.ra id).vs) :: dJ (p.ra id).vs R.fl.nodes :: row 265 3 (.slice (some ⟨(p.ra id).gs, 0, none⟩) (R.setS k s').steps.length (p.ra id).cs) (R.setS k s').steps.length (pM (R.steps.set k s')) :: (km e p S a b ++ r))
 rw [hl]
 exact Ent.refl _
theorem vn {id i : Nat} {R R' : FK.Rn} {v : Value} (hR : S.getR id = some R) (hz : bZ P t 1) (hx : ev ts x = some (.pointer (some ⟨p.fb id, i, none⟩))) (hy : ev ts y = some v) (hi : i < 5) (hv : v.oneCell' = true) (hfl : R'.fl = R.fl) (hst : R'.steps = R.steps) (hset : (tf (p.ra id) R).setIfInBounds i v = tf (p.ra id) R')
 (hk : At E n D ts (ap e p (S.setR id R') :: r) K) : At E n D ts l (fun a w => (Oper.mk none (.store t x y) ty pos af g).wp P a w K Q) := by
 refine eC (p := cJ S) (fun w hw => kq hw) fun hn => ?_
 obtain ⟨a, b, hab, hset'⟩ := gY hR hn
 refine At.ent ((Ent.sel H.sel).trans (il hab)) (At.ent (Ent.sel (.tail .head)) ?_)
 refine bC (b := p.fb id) (cs := tf (p.ra id) R) Z hz hx hy hv (by simpa using hi) ?_
 rw [hset]
 refine At.ent ?_ hk
 refine Ent.trans ?_ (gA hn (hset' R'))
 refine (Ent.sel (.tail .head)).trans ?_
 unfold lD RA.nv RA.sv
 rw [hfl, hst]
 exact Ent.refl _
theorem mT {i : Nat} {S' : FK.En} {v : Value} (hz : bZ P t 1) (hx : ev ts x = some (.pointer (some ⟨e, i, none⟩))) (hy : ev ts y = some v) (hi : i < 10) (hv : v.oneCell' = true) (hset : ∀ rv f n, (pR (hY S p) rv f n).setIfInBounds i v = pR (hY S' p) rv f n)
 (h1 : S'.queue = S.queue) (h2 : S'.runs = S.runs) (h3 : S'.tasks = S.tasks) (h4 : S'.now = S.now) (h5 : S'.sets = S.sets) (h6 : S'.tms = S.tms) (hk : At E n D ts (ap e p S' :: r) K) : At E n D ts l (fun a w => (Oper.mk none (.store t x y) ty pos af g).wp P a w K Q) := by
 refine At.ent (Ent.sel H.sel) (bn ?_)
 refine y7 (h := ⟨.tail .head⟩) (e := e) (i := i) (C := hY S p) (C' := hY S' p) hz hx hy hv hi hset ?_
 refine At.ent ?_ hk
 refine Ent.trans ?_ (Ent.all (m := iC e p S'))
 unfold iC cJ dw cm
 rw [h1, h2, h3, h4, h5, h6]
 exact Ent.sel (.tail .head)
end
section
variable {e : Nat} {p : EA} {S : FK.En}
theorem lV {f : FuncId} {args : Array Value} {R : Value → List HP → Prop} {R' : Value → List HP → Prop} (h : Does Tryz.prog G f args [cD e (hY S p) S.queue] R) (hR : ∀ v m, R v m → ∃ q, m = [cD e (hY S p) q] ∧ R' v [ap e p { S with queue := q }]) : Does Tryz.prog G f args [ap e p S] R' := by
 refine Does.part (c := [HP.pure (cJ S), bF bc p.rm (dw S p), d9 p S.runs, bF bc p.tm (cm S), cv p.w S.now S.sets S.tms]) h ((Ent.unall (m := iC e p S)).trans (Ent.sel (.tail .head))) fun v m hm => ?_
 obtain ⟨q, rfl, h2⟩ := hR v m hm
 exact ⟨_, h2, (Ent.sel (.tail .head)).trans (Ent.all (m := iC e p { S with queue := q }))⟩
theorem wm (q : FK.Pl) (hq : S.queue.length ≤ 400) : Does Tryz.prog G 175 [ox e, fZ q].toArray [ap e p S] fun v m => v = .tuple #[] ∧ m = [ap e p { S with queue := S.queue ++ [q] }] :=
 lV (nW e _ q hq) fun _ _ ⟨h1, h2⟩ => ⟨_, h2, h1, rfl⟩
theorem yY : Does Tryz.prog G 161 [ox e].toArray [ap e p S] fun v m => v = .int .i64 S.queue.length ∧ m = [ap e p S] :=
 lV (wu e _) fun _ _ ⟨h1, h2⟩ => ⟨S.queue, h2, h1, rfl⟩
theorem tA {w : World} {w0 now sets : Nat} {tms : List FK.KD} {F : Nat → Prop} (h : (cv w0 now sets tms).sat w F) : ∃ W, WOk now sets tms W ∧ (bw w0 W).sat w F := by
 obtain ⟨W, h1⟩ := h
 refine ⟨W, ?_, ?_⟩
 · have := Star.mem (p := HP.pure (WOk now sets tms W)) (l := [HP.pure (WOk now sets tms W), bw w0 W]) h1 (by simp)
   exact this
 · exact Star.mem (l := [HP.pure (WOk now sets tms W), bw w0 W]) h1 (by simp)
theorem hK {f : FuncId} {args : Array Value} {R' : Value → List HP → Prop} (h : ∀ W, WOk S.now S.sets S.tms W → Does Tryz.prog G f args [bw p.w W] fun v m => ∃ W' now sets tms, m = [bw p.w W'] ∧ WOk now sets tms W' ∧ R' v [ap e p { S with now := now, sets := sets, tms := tms }]) : Does Tryz.prog G f args [ap e p S] R' := by
 refine Does.part (pre := [cv p.w S.now S.sets S.tms]) (R := fun v m => ∃ now sets tms, m = [cv p.w now sets tms] ∧ R' v [ap e p { S with now := now, sets := sets, tms := tms }]) (c := [HP.pure (cJ S), cD e (hY S p) S.queue, bF bc p.rm (dw S p), d9 p S.runs, bF bc p.tm (cm S)]) ?_ ((Ent.unall (m := iC e p S)).trans (Ent.sel (.tail (.tail (.tail (.tail (.tail .head))))))) ?_
 · intro E w fr hE hw
   obtain ⟨F1, F2, h1, h2, hd, hp, hl⟩ := hw.star
   obtain ⟨W, hW, hs⟩ := tA hp
   refine (((h W hW).mono (R' := fun v m => ∃ now sets tms, m = [cv p.w now sets tms] ∧ R' v [ap e p { S with now := now, sets := sets, tms := tms }]) ?_)) E w fr hE ⟨hw.is, F1, F2, h1, h2, hd, hs, hl⟩
   rintro v m ⟨W', now, sets, tms, rfl, hW', hR⟩
   refine ⟨_, ⟨now, sets, tms, rfl, hR⟩, ?_⟩
   exact (Ent.pure hW').trans ((Ent.all (m := [HP.pure (WOk now sets tms W'), bw p.w W'])).trans (Ent.ex (f := fun W : FK.WS => HP.all [HP.pure (WOk now sets tms W), bw p.w W]) W'))
 · rintro v m ⟨now, sets, tms, rfl, hR⟩
   refine ⟨_, hR, ?_⟩
   refine Ent.trans ?_ (Ent.all (m := iC e p { S with now := now, sets := sets, tms := tms }))
   exact (bX (.tail .head) (.tail .head) (.tail .head)).trans (Ent.cons (Ent.cons (Ent.cons (aK (.tail .head) (.tail .head)))))
theorem vq : Does Tryz.prog G 180 [aL p.w].toArray [ap e p S] fun v m => v = .int .u64 S.now ∧ m = [ap e p S] := by
 refine hK fun W hW => (zd p.w).mono ?_
 rintro v m ⟨rfl, rfl⟩
 exact ⟨_, ⟨W, S.now, S.sets, S.tms, rfl, hW, by rw [hW.now], rfl⟩, Ent.refl _⟩
theorem nI (k : FK.Pl) (hl : S.tms.length ≤ 99999) : Does Tryz.prog G 202 [aL p.w, fZ k].toArray [ap e p S] fun v m => v = .tuple #[] ∧ m = [ap e p (S.unset k)] := by
 refine hK fun W hW => (rP p.w k hW.inv (by have := congrArg List.length hW.tms; rw [List.length_map] at this; omega)).mono ?_
 rintro v m ⟨rfl, W', h1, h2, h3, h4, rfl⟩
 exact ⟨_, ⟨W', S.now, S.sets, S.tms.filter fun x => x.1 != k, rfl, ⟨h2.trans hW.now, h3 ▸ hW.seq, h1, by rw [h4, hW.tms]⟩, rfl, rfl⟩, Ent.refl _⟩
theorem mQ (k : FK.Pl) (a : Nat) (h1 : S.now ≤ a) (h2 : a ≤ 4611686018427387904) (h3 : S.sets < 9223372036854775807) (hl : S.tms.length ≤ 99998) : Does Tryz.prog G 158 [aL p.w, fZ k, .int .u64 a].toArray [ap e p S] fun v m => v = .tuple #[] ∧ m = [ap e p (S.setT k a)] := by
 refine hK fun W hW => (Ar p.w k a hW.inv (hW.now ▸ h1) h2 (Nat.lt_of_le_of_lt hW.seq h3) (by have := congrArg List.length hW.tms; rw [List.length_map] at this; omega)).mono ?_
 rintro v m ⟨rfl, W', g1, g2, g3, g4, rfl⟩
 exact ⟨_, ⟨W', S.now, S.sets + 1, S.tms.filter (fun x => x.1 != k) ++ [(k, a)], rfl, ⟨g2.trans hW.now, by rw [g3]; exact Nat.succ_le_succ hW.seq, g1, by rw [g4, hW.tms]⟩, rfl, rfl⟩, Ent.refl _⟩
end
end Go.Proofs.YtmeegfamopaljaaGreatDoor

namespace Go.Proofs.YtmeegfamopaljaaGreatDoor
open Go Go.RowKit Go.SL
variable {G : Env → Prop}
set_option maxRecDepth 10000 in
theorem um (xs : List Int) (A : Option Addr) (c : Nat) (v : Int) : Does Tryz.prog G 254 [.slice A xs.length c, .int .i64 v].toArray [bh (.slice A xs.length c) xs] fun u m => (∃ i : Int, u = .int .i64 i ∧ (0 ≤ i ↔ v ∈ xs)) ∧ m = [bh (.slice A xs.length c) xs] := by
 refine Does.body Tryz.func254 Z Z fun E fr hE => ?_
 refine ai (aJ .head ?_)
 intro A' c' hA hnil hform hc1 hc2 _
 injection hA with hA _ hcc
 subst hA; subst hcc
 replace hc2 : c ≤ 9223372036854775807 := hc2
 refine At.seq (At.region (L.as Z Z (L.nil (At.then (At.seq (At.seq (At.region (L.mv Z Z (L.pure Z (aP Z Z) (L.mv Z Z (L.nil (At.then (At.block ?_)))))))))))))
 refine aT (X := Nat) (fun k => [(8, .int .i64 k), (7, .int .i64 xs.length), (0, .slice A xs.length c), (1, .int .i64 v)]) (fun _ => bh (.slice A xs.length c) xs :: fr) (fun k => k ≤ xs.length ∧ ∀ j, j < k → xs[j]? ≠ some v) (fun k => xs.length - k) 0 ⟨by omega, fun j hj => by omega⟩ ⟨rfl, rfl, rfl, rfl, trivial⟩ (Ent.refl _) ?_
 rintro k ⟨hk, hne⟩
 refine At.seq (At.region (L.pure Z (bf Z Z Z) (L.nil (At.then (At.seq ?_)))))
 refine aC Z (fun c9 => ?_) (fun c9 => ?_)
 ·
  have hlt : k < xs.length := by omega
  obtain ⟨g, rfl⟩ : ∃ g, A = some ⟨g, 0, none⟩ := by
   cases A with
   | none => have := (hnil rfl).1; omega
   | some ad => obtain ⟨g, rfl⟩ := hform ad rfl; exact ⟨g, rfl⟩
  obtain ⟨o, ho⟩ : ∃ o, xs[k]? = some o := ⟨xs[k], by simp [hlt]⟩
  refine At.skip (At.then (At.seq (At.block (At.seq (At.region (L.mv Z Z (L.as Z Z (L.nil (At.then (At.seq (At.region (L.mv Z Z (L.mv Z Z (L.mv Z Z (L.pure Z (bD (z := 1) Z Z Z Z hlt) ?_)))))))))))))))
  refine L.val Z (aa (v := .int .i64 o) Z Z) (iw .head (by rw [Nat.zero_add, Nat.mul_one, cI, List.getElem?_map, ho]; rfl)) ?_
  refine L.pure Z (aV Z Z Z) (L.nil (At.then ?_))
  refine aC Z (fun c16 => ?_) (fun c16 => ?_)
  ·
   subst c16
   refine At.seq (At.region (L.mv Z Z (L.as Z Z (L.nil (At.then (At.ret (aB (aI (bT (aB (aI ?_)))))))))))
   exact aA [_] rfl Z ⟨⟨_, rfl, by simp [List.mem_of_getElem? ho]⟩, rfl⟩ (Ent.refl _)
  ·
   refine At.skip (al (At.then (At.region ?_)))
   refine L.pure Z (aO (r := ((k + 1 : Nat) : Int)) Z Z (by rw [cT (by omega)]; omega)) ?_
   refine L.mv Z Z (L.nil ?_)
   exact At.round (k + 1) ⟨hlt, fun j hj => (by rcases Nat.lt_succ_iff_lt_or_eq.1 hj with h | rfl; exact hne j h; rw [ho]; intro h; injection h with h; exact c16 h.symm)⟩ (by omega) ⟨rfl, rfl, rfl, rfl, trivial⟩ (Ent.refl _)
 ·
  refine At.exit (au (ar (an (At.then (At.seq (At.region (L.as Z Z (L.nil (At.then (At.ret ?_))))))))))
  refine aA [_] rfl Z ⟨⟨_, rfl, ?_⟩, rfl⟩ (Ent.refl _)
  have : v ∉ xs := fun h => by
   obtain ⟨j, hj, e⟩ := List.getElem_of_mem h
   exact hne j (by omega) (by simp [hj, e])
  simp [this]
set_option maxRecDepth 10000 in
theorem oJ (xs : List Int) (A : Option Addr) (c : Nat) (v : Int) : Does Tryz.prog G 231 [.slice A xs.length c, .int .i64 v].toArray [bh (.slice A xs.length c) xs] fun u m => u = .bool (decide (v ∈ xs)) ∧ m = [bh (.slice A xs.length c) xs] := by
 refine Does.body Tryz.func231 Z Z fun E fr hE => ?_
 refine ai (At.seq (At.region (L.as Z Z (L.nil (At.then (At.seq (At.region (L.mv Z Z (L.mv Z Z (L.op Z (ah Z Z Z hE (um xs A c v) (Ent.refl _) ?_)))))))))))
 rintro v m ⟨⟨i, rfl, hi⟩, rfl⟩
 refine ai (L.pure Z (nb Z Z Z) (L.as Z Z (L.nil (At.then (At.ret ?_)))))
 exact aA [_] rfl Z ⟨by congr 1; exact decide_eq_decide.2 hi, rfl⟩ (Ent.refl _)
set_option maxRecDepth 10000 in
theorem yz {X : HP} {rb gs k n cs : Nat} {st : Int} (xs : List Int) (A : Option Addr) (c : Nat) (h1 : ∀ E w r, Holds E w (X :: r) → bI ⟨rb, 3, none⟩ (.slice (some ⟨gs, 0, none⟩) n cs) w) (h2 : ∀ E w r, Holds E w (X :: r) → bI ⟨gs, 0 + k * 3 + 0, none⟩ (.int .i64 st) w) (hk : k < n) : Does Tryz.prog G 204 [aL rb, .int .i64 k, .slice A xs.length c].toArray [X, bh (.slice A xs.length c) xs] fun u m => u = .bool (decide (st ∈ xs)) ∧ m = [X] := by
 refine Does.body Tryz.func204 Z Z fun E fr hE => ?_
 refine aF (At.seq (At.region (L.as Z Z (L.nil (At.then (At.seq (At.region (L.mv Z Z (L.mv Z Z (aN Z Z (aE 3 Z Z Z ?_)))))))))))
 refine L.val Z (aa (v := .slice (some ⟨gs, 0, none⟩) n cs) Z Z) (fun w hw => h1 _ _ _ hw) ?_
 refine L.mv Z Z (L.pure Z (bD (z := 3) Z Z Z Z hk) (aE 0 Z Z Z ?_))
 refine L.val Z (aa (v := .int .i64 st) Z Z) (fun w hw => h2 _ _ _ hw) ?_
 refine L.op Z (ah Z Z Z hE (oJ xs A c st) (Ent.sel (.tail (.head))) ?_)
 rintro v m ⟨rfl, rfl⟩
 refine ai (L.as Z Z (L.nil (At.then (At.ret ?_))))
 exact aA [_] rfl Z ⟨rfl, rfl⟩ Ent.drop
theorem mW {e : Nat} {p : EA} {S : FK.En} {id k : Nat} {R : FK.Rn} {s : FK.Sp} (xs : List Int) (A : Option Addr) (c : Nat) (hR : S.getR id = some R) (hs : R.steps[k]? = some s) : Does Tryz.prog G 204 [aL (p.fb id), .int .i64 k, .slice A xs.length c].toArray [ap e p S, bh (.slice A xs.length c) xs] fun u m => u = .bool (decide (s.state ∈ xs)) ∧ m = [ap e p S] :=
 yz (n := R.steps.length) (cs := (p.ra id).cs) (gs := (p.ra id).gs) xs A c (fun _E w _r hw => bN (i := 3) hR rfl w hw) (fun _E w _r hw => dW hR hs rfl w hw) (List.getElem?_eq_some_iff.1 hs).1
theorem nx {e : Nat} {p : EA} {S : FK.En} {id k h : Nat} {R : FK.Rn} {s : FK.Sp} (xs : List Int) (A : Option Addr) (c : Nat) (hR : S.getR id = some R) (hs : R.steps[k]? = some s) : Does Tryz.prog G 204 [aL (p.fb id), .int .i64 k, .slice A xs.length c].toArray [SL.under h (ap e p S), bh (.slice A xs.length c) xs] fun u m => u = .bool (decide (s.state ∈ xs)) ∧ m = [SL.under h (ap e p S)] :=
 yz (n := R.steps.length) (cs := (p.ra id).cs) (gs := (p.ra id).gs) xs A c (fun _E w _r hw => bN (i := 3) hR rfl w hw) (fun _E w _r hw => dW hR hs rfl w hw) (List.getElem?_eq_some_iff.1 hs).1
end Go.Proofs.YtmeegfamopaljaaGreatDoor

namespace Go.Proofs.YtmeegfamopaljaaGreatDoor
open Go Go.RowKit Go.SL
variable {G : Env → Prop}
set_option maxRecDepth 10000 in
theorem jc {e : Nat} {p : EA} {S : FK.En} (span : Int) (h1 : S.now ≤ 4611686018427387904) (h0 : 0 ≤ span) (h2 : span ≤ 4611686018427387904) : Does Tryz.prog G 159 [aL e, .int .i64 span].toArray [ap e p S] fun u m => u = .int .u64 (S.later span.toNat) ∧ m = [ap e p S] := by
 refine Does.body Tryz.func159 Z Z fun E fr hE => ?_
 refine ai (At.seq (At.region (L.as Z Z (L.nil (At.then (At.seq (At.region (L.mv Z Z (aN Z Z (aE 6 Z Z Z ?_))))))))))
 refine L.val Z (aa (v := aL p.w) Z Z) (aQ fun _ _ _ => rfl) ?_
 refine L.op Z (ah Z Z Z hE vq (Ent.refl _) ?_)
 rintro v m ⟨rfl, rfl⟩
 refine ai (L.mv Z Z ?_)
 refine L.pure Z (bq (r := span) Z Z Z (by rw [lE]; omega)) ?_
 refine L.pure Z (aO (r := ((S.now + span.toNat : Nat) : Int)) Z Z (by rw [lE]; omega)) ?_
 refine L.pure Z (tt (r := ((S.later span.toNat : Nat) : Int)) Z Z (by unfold FK.En.later; omega)) ?_
 refine L.as Z Z (L.nil (At.then (At.ret ?_)))
 exact aA [_] rfl Z ⟨rfl, rfl⟩ (Ent.refl _)
set_option maxRecDepth 10000 in
theorem pu {e : Nat} {p : EA} {S : FK.En} (q : FK.Pl) (nd : FK.Node) (u : Value) (h1 : S.now ≤ 4611686018427387904) (h2 : nd.beat ≤ 4611686018427387904) (h3 : S.sets < 9223372036854775807) (hl : S.tms.length ≤ 99998) : Does Tryz.prog G 164 [aL e, fZ q, .agg (aw nd u).toArray].toArray [ap e p S] fun v m => v = .tuple #[] ∧ m = [ap e p (S.life q nd)] := by
 have hlat : ∀ n, S.now ≤ S.later n := fun n => by unfold FK.En.later; omega
 have hlat2 : ∀ n, S.later n ≤ 4611686018427387904 := fun n => by unfold FK.En.later; omega
 refine Does.body Tryz.func164 Z Z fun E fr hE => ?_
 refine ai (At.seq (At.region (L.op Z (cc Z Z fun b4 => (L.op Z (cc Z Z fun b5 => (L.nil (At.then (At.seq (At.region (aE 2 Z Z Z (aX Z Z Z Z (L.pure Z (dZ Z Z Z) (L.nil (At.then ?_)))))))))))))))
 refine aC Z (fun c8 => ?_) (fun c8 => ?_)
 ·
  have hb : 0 < nd.beat := by omega
  refine Dr.start Z (dP 0 Z Z (ag Z) (dP 1 Z Z (aq Z) (dP 2 Z Z (ab (off := 6) Z Z) ?_)))
  refine dL 3 Z Z (aa Z Z) (aQ fun _ _ _ => rfl) ?_
  refine dP 4 Z Z (ab (off := 0) Z Z) (dL 5 Z Z (aa Z Z) (ae Z) (dP 6 Z Z (ab (off := 1) Z Z) (dL 7 Z Z (aa Z Z) (ae Z) (dP 8 Z Z (bg (cs := #[.int .u64 q.run, .int .i64 q.node, .int .i64 2]) Z Z Z Z Z) (dP 9 Z Z (ag Z) (dP 10 Z Z (ab (off := 2) Z Z) (dL 11 Z Z (aa Z Z) (ae Z) ?_)))))))
  refine dR 12 Z Z (ah Z Z Z hE (jc nd.beat h1 (by omega) h2) (Ent.sel (.tail (.tail (.head)))) ?_)
  rintro v m ⟨rfl, rfl⟩
  refine ai ?_
  refine Dr.kept [false, true, true, true] (by kernel_rfl) (Kept.cons (ae Z) (Kept.cons (ae Z) (Kept.cons (aQ fun _ _ _ => rfl) Kept.nil))) ?_
  refine dR 13 Z Z (ah Z Z Z hE (mQ ⟨q.run, q.node, 2⟩ (S.later nd.beat.toNat) (hlat _) (hlat2 _) h3 hl) (Ent.refl _) ?_)
  rintro v m ⟨rfl, rfl⟩
  refine ai ?_
  refine Dr.kept [true, true, false] (by kernel_rfl) (Kept.cons (ae Z) (Kept.cons (ae Z) Kept.nil)) ?_
  refine dE ?_
  exact aZ [ap e p (S.life q nd)] rfl ⟨rfl, rfl⟩ (by unfold FK.En.life; rw [if_pos hb]; exact Ent.cons (Ent.drop.trans Ent.drop))
 ·
  have hb : ¬ 0 < nd.beat := by omega
  refine At.skip ?_
  exact aZ [ap e p (S.life q nd)] rfl ⟨rfl, rfl⟩ (by unfold FK.En.life; rw [if_neg hb]; exact Ent.drop.trans Ent.drop)
end Go.Proofs.YtmeegfamopaljaaGreatDoor

namespace Go.Proofs.YtmeegfamopaljaaGreatDoor
open Go Go.RowKit Go.SL
variable {G : Env → Prop}
theorem iZ {α : Type} (l : List (Nat × α)) (f : Nat → α → Value) (k : Nat) : cw (l.map fun r => (r.1, f r.1 r.2)) k = ((l.find? (·.1 == k)).map fun r => f k r.2) := by
 unfold cw
 induction l with
 | nil => rfl
 | cons x l ih =>
  simp only [List.map_cons, List.find?_cons]
  cases h : x.1 == k with
  | true =>
   have : x.1 = k := by simpa using h
   simp [this]
  | false => exact ih
theorem eS {S : FK.En} {p : EA} {id : Nat} {R : FK.Rn} (h : S.getR id = some R) : cw (dw S p) id = some (aL (p.fb id)) := by
 unfold dw
 rw [iZ S.runs (fun k _ => aL (p.fb k)) id]
 unfold FK.En.getR at h
 cases hf : S.runs.find? (·.1 == id) with
 | none => rw [hf] at h; cases h
 | some x => rfl
theorem wk {S : FK.En} {p : EA} {id : Nat} (h : S.getR id = none) : cw (dw S p) id = none := by
 unfold dw
 rw [iZ S.runs (fun k _ => aL (p.fb k)) id]
 unfold FK.En.getR at h
 cases hf : S.runs.find? (·.1 == id) with
 | none => rfl
 | some x => rw [hf] at h; cases h
theorem iK {S : FK.En} {t : Nat} : cw (cm S) t = ((S.tasks.find? (·.1 == t)).map fun x => fZ x.2) := by
 unfold cm
 rw [iZ S.tasks (fun _ q => fZ q) t]
set_option maxRecDepth 10000 in
theorem nX {e : Nat} {p : EA} {S : FK.En} {id k : Nat} {wh : Int} {R : FK.Rn} {s : FK.Sp} (hR : S.getR id = some R) (hs : R.steps[k]? = some s) (hq : S.queue.length ≤ 400) : Does Tryz.prog G 205 [aL e, fZ ⟨id, (k : Int), wh⟩].toArray [ap e p S] fun v m => v = .tuple #[] ∧ m = [ap e p (S.ready id k)] := by
 have hk := (List.getElem?_eq_some_iff.1 hs).1
 refine Does.body Tryz.func205 Z Z fun E fr hE => ?_
 refine ai (At.seq (At.region (L.op Z (cc Z Z fun b3 => (L.nil (At.then (At.seq (Dr.start Z (dP 0 Z Z (ag Z) (dP 1 Z Z (aq Z) (dP 2 Z Z (ab (off := 1) Z Z) ?_)))))))))))
 refine dL 3 Z Z (aa Z Z) (aQ fun _ _ _ => rfl) ?_
 refine dP 4 Z Z (ab (off := 0) Z Z) (dL 5 Z Z (aa Z Z) (ae Z) (dL 6 Z Z (eB (a := id) (v := aL (p.fb id)) Z dD Z Z (eS hR)) cS (dP 7 Z Z (aq Z) (dP 8 Z Z (ab (off := 3) Z Z) (dL 9 Z Z (aa (v := (p.ra id).sv R) Z Z) (bN hR Z) (dP 10 Z Z (ab (off := 1) Z Z) (dL 11 Z Z (aa Z Z) (ae Z) (dP 12 Z Z (bD (z := 3) Z Z Z Z hk) (dP 13 Z Z (ab (off := 0) Z Z) ?_)))))))))
 refine dR 14 Z Z (iG (s' := { s with state := 2 }) hR hs Z Z Z Z (by omega) Z Z ?_)
 refine Dr.kept [false, false, false, false, false] (by kernel_rfl) Kept.nil ?_
 refine dE (At.then (At.seq (At.region (aE 2 Z Z Z ?_))))
 refine L.st Z Z Z Z (by show 2 < 3; omega) ?_
 refine L.nil (At.then (Dr.start Z (dP 0 Z Z (ag Z) (dP 1 Z Z (aq Z) (dP 2 Z Z (ab (off := 3) Z Z) ?_)))))
 refine dL 3 Z Z (am (vs := fE ⟨id, (k : Int), 0⟩) Z Z Z Z) (av Z) ?_
 refine dR 4 Z Z (ah Z Z Z hE (wm ⟨id, (k : Int), 0⟩ (by exact hq)) (Ent.sel (.tail (.head))) ?_)
 rintro v m ⟨rfl, rfl⟩
 refine ai ?_
 refine Dr.kept [false] (by kernel_rfl) Kept.nil ?_
 refine dE ?_
 exact aZ [ap e p (S.ready id k)] rfl ⟨rfl, rfl⟩ (by unfold FK.En.ready; rw [FK.m8 _ hR hs]; exact Ent.cons Ent.drop)
end Go.Proofs.YtmeegfamopaljaaGreatDoor

namespace Go.Proofs.YtmeegfamopaljaaGreatDoor
open Go Go.RowKit Go.SL
variable {G : Env → Prop}
theorem sf (S : FK.En) (t : Nat) : (cm S).eraseP (·.1 == t) = cm { S with tasks := S.tasks.eraseP (·.1 == t) } := by
 unfold cm
 rw [List.eraseP_map]
 rfl
section
variable {P : Program} {E : Env} {n : Nat} {D : List Deferred} {ts : List (Nat × Value)} {l r : List HP} {Q : Exit → Act → World → Prop} {ty : TypeId} {pos : String} {af : Array Edge} {g : Option (Nat × Bool)} {t : TypeId} {x y : Operand} {e : Nat} {p : EA} {S : FK.En} {K : Act → World → Prop} [H : HasEng l e p S r]
theorem wL {tok : Nat} {t kt et : TypeId} {d : Option Tmp} (hd : d = none) (ht : P.underlying t = some (.map kt et)) (hk : KeyK P kt Nat bc) (hx : ev ts x = some (.map (some p.tm))) (hy : ev ts y = some (bc tok))
 (h : At E n D ts (ap e p { S with tasks := S.tasks.eraseP (·.1 == tok) } :: r) K) : At E n D ts l (fun ac w => (Oper.mk d (.call { callee := .builtin .delete, args := #[x, y], argTypes := #[t, kt] }) ty pos af g).wp P ac w K Q) := by
 refine At.ent (Ent.sel H.sel) (bn ?_)
 show At E n D ts (HP.pure (cJ S) :: cD e (hY S p) S.queue :: bF bc p.rm (dw S p) :: d9 p S.runs :: bF bc p.tm (cm S) :: cv p.w S.now S.sets S.tms :: r) _
 refine pX (b := p.tm) (a := tok) hd ht hk hx hy (.tail (.tail (.tail (.tail .head)))) ?_
 rw [sf]
 refine At.ent ?_ h
 refine Ent.trans ?_ (Ent.all (m := iC e p { S with tasks := S.tasks.eraseP (·.1 == tok) }))
 exact (bX (.tail .head) (.tail .head) (.tail .head)).trans (Ent.cons (Ent.cons (Ent.cons (Ent.sel (.tail .head)))))
end
set_option maxRecDepth 10000 in
theorem i7 {e : Nat} {p : EA} {S : FK.En} {id k : Nat} {wh : Int} {R : FK.Rn} {s : FK.Sp} (hR : S.getR id = some R) (hs : R.steps[k]? = some s) (hl : S.tms.length ≤ 99999) : Does Tryz.prog G 232 [aL e, fZ ⟨id, (k : Int), wh⟩].toArray [ap e p S] fun v m => v = .pointer (some ⟨(p.ra id).gs, 0 + k * 3, none⟩) ∧ m = [ap e p (S.leave id k)] := by
 have hk := (List.getElem?_eq_some_iff.1 hs).1
 refine Does.body Tryz.func232 Z Z fun E fr hE => ?_
 refine ai (At.seq (At.region (L.op Z (cc Z Z fun b3 => (L.as Z Z (L.nil (At.then (At.seq (Dr.start Z (dP 0 Z Z (ag Z) (dP 1 Z Z (aq Z) (dP 2 Z Z (ab (off := 1) Z Z) ?_))))))))))))
 refine dL 3 Z Z (aa Z Z) (aQ fun _ _ _ => rfl) ?_
 refine dP 4 Z Z (ab (off := 0) Z Z) (dL 5 Z Z (aa Z Z) (ae Z) (dL 6 Z Z (eB (a := id) (v := aL (p.fb id)) Z dD Z Z (eS hR)) cS (dP 7 Z Z (aq Z) (dP 8 Z Z (ab (off := 3) Z Z) (dL 9 Z Z (aa (v := (p.ra id).sv R) Z Z) (bN hR Z) (dP 10 Z Z (ab (off := 1) Z Z) (dL 11 Z Z (aa Z Z) (ae Z) (dP 12 Z Z (bD (z := 3) Z Z Z Z hk) (dP 13 Z Z (az Z) (dE (At.then (At.seq (Dr.start Z (dP 0 Z Z (ag Z) (dP 1 Z Z (aq Z) (dP 2 Z Z (ab (off := 2) Z Z) ?_))))))))))))))))
 refine dL 3 Z Z (aa Z Z) (aQ fun _ _ _ => rfl) ?_
 refine dP 4 Z Z (ag Z) (dP 5 Z Z (aq Z) (dP 6 Z Z (ab (off := 2) Z Z) (dL 7 Z Z (aa (v := .int .u64 s.token) Z Z) (dW hR hs Z) (dR 8 Z Z (wL (tok := s.token) Z Z dD Z Z ?_)))))
 refine Dr.kept [false, false] (by kernel_rfl) Kept.nil ?_
 refine dE (At.then (At.seq ?_))
 have hR1 : { S with tasks := S.tasks.eraseP (·.1 == s.token) }.getR id = some R := hR
 refine At.region (L.mv Z Z (aN Z Z (aE 2 Z Z Z ?_)))
 refine L.op Z (iG (s' := { s with token := 0 }) hR1 hs Z Z Z Z (by omega) Z Z ?_)
 refine L.nil (At.then (At.seq (Dr.start Z (dP 0 Z Z (ag Z) (dP 1 Z Z (aq Z) (dP 2 Z Z (ab (off := 6) Z Z) ?_))))))
 refine dL 3 Z Z (aa Z Z) (aQ fun _ _ _ => rfl) ?_
 refine dP 4 Z Z (ab (off := 0) Z Z) (dL 5 Z Z (aa Z Z) (ae Z) (dP 6 Z Z (ab (off := 1) Z Z) (dL 7 Z Z (aa Z Z) (ae Z) (dP 8 Z Z (bg (cs := #[.int .u64 id, .int .i64 (k : Int), .int .i64 1]) Z Z Z Z Z) ?_))))
 refine dR 9 Z Z (ah Z Z Z hE (nI ⟨id, (k : Int), 1⟩ (by exact hl)) (Ent.refl _) ?_)
 rintro v m ⟨rfl, rfl⟩
 refine ai ?_
 refine Dr.kept [true, true, false] (by kernel_rfl) (Kept.cons (ae Z) (Kept.cons (ae Z) Kept.nil)) ?_
 refine dE (At.then (At.seq (Dr.start Z (dP 0 Z Z (ag Z) (dP 1 Z Z (aq Z) (dP 2 Z Z (ab (off := 6) Z Z) ?_))))))
 refine dL 3 Z Z (aa Z Z) (aQ fun _ _ _ => rfl) ?_
 refine dP 4 Z Z (ab (off := 0) Z Z) (dL 5 Z Z (aa Z Z) (ae Z) (dP 6 Z Z (ab (off := 1) Z Z) (dL 7 Z Z (aa Z Z) (ae Z) (dP 8 Z Z (bg (cs := #[.int .u64 id, .int .i64 (k : Int), .int .i64 2]) Z Z Z Z Z) ?_))))
 refine dR 9 Z Z (ah Z Z Z hE (nI ⟨id, (k : Int), 2⟩ (Nat.le_trans (List.length_filter_le _ _) (by exact hl))) (Ent.refl _) ?_)
 rintro v m ⟨rfl, rfl⟩
 refine ai ?_
 refine Dr.kept [true, true, false] (by kernel_rfl) (Kept.cons (ae Z) (Kept.cons (ae Z) Kept.nil)) ?_
 refine dE (At.then (At.seq (At.region (L.mv Z Z (L.as Z Z (L.nil (At.then (At.ret ?_))))))))
 exact aA [ap e p (S.leave id k)] rfl Z ⟨rfl, rfl⟩ (by rw [FK.dm hR hs]; exact Ent.cons Ent.drop)
theorem xl {P : Program} {ts : List (Nat × Value)} {K : Type} [BEq K] {enc : K → Value} {t kt et : TypeId} {x y : Operand} {b : Nat} {m : List (K × Value)} {a : K} {z v : Value} {o : Bool} (ht : P.underlying t = some (.map kt et)) (hk : KeyK P kt K enc) (hz : fq P et z) (hx : ev ts x = some (.map (some b))) (hy : ev ts y = some (enc a)) (hv : (cw m a).getD z = v) (ho : (cw m a).isSome = o) :
 Ev P ts (.lookup t x y true) (.tuple #[v, .bool o]) (gr enc b m) := by
 subst hv; subst ho
 exact rL ht hk hz hx hy
set_option maxRecDepth 10000 in
theorem rX {e : Nat} {p : EA} {S : FK.En} : Does Tryz.prog G 99 [aL e].toArray [ap e p S] fun v m => v = .bool (decide (0 < S.queue.length)) ∧ m = [ap e p S] := by
 refine Does.body Tryz.func99 Z Z fun E fr hE => ?_
 refine ai (At.seq (At.region (L.as Z Z (L.nil (At.then (At.seq (At.region (L.mv Z Z (aN Z Z (aE 3 Z Z Z (L.op Z (ah Z Z Z hE yY (Ent.refl _) ?_))))))))))))
 rintro v m ⟨rfl, rfl⟩
 refine ai (L.pure Z (dZ Z Z Z) (L.as Z Z (L.nil (At.then (At.ret ?_)))))
 exact aA [_] rfl Z ⟨by congr 1; simp, rfl⟩ (Ent.refl _)
set_option maxRecDepth 10000 in
theorem tz {e : Nat} {p : EA} {S : FK.En} (t : Nat) : Does Tryz.prog G 165 [aL e, bc t].toArray [ap e p S] fun v m => v = .bool (S.tasks.any (·.1 == t)) ∧ m = [ap e p S] := by
 have hb : (cw (cm S) t).isSome = S.tasks.any (·.1 == t) := by rw [iK]; simp [List.isSome_find?]
 obtain ⟨q, hq⟩ : ∃ q : FK.Pl, (cw (cm S) t).getD (fZ ⟨0, 0, 0⟩) = fZ q := by
  rw [iK]
  cases S.tasks.find? (·.1 == t) with
  | none => exact ⟨⟨0, 0, 0⟩, rfl⟩
  | some x => exact ⟨x.2, rfl⟩
 refine Does.body Tryz.func165 Z Z fun E fr hE => ?_
 refine ai (At.seq (At.region (L.as Z Z (L.nil (At.then (At.seq (At.region (L.mv Z Z (aN Z Z (aE 2 Z Z Z ?_))))))))))
 refine L.val Z (aa (v := .map (some p.tm)) Z Z) (aQ fun _ _ _ => rfl) ?_
 refine L.mv Z Z (L.val Z (xl (m := cm S) Z dD Z Z Z hq hb) j9 (L.mv Z Z (L.ex Z Z Z (L.ex Z Z Z (L.op Z (aH (z := .agg #[.int .u64 0, .int .i64 0, .int .i64 0]) Z Z fun b5 => ?_))))))
 refine L.op Z (aG Z (m := 3) Z Z Z Z (by simp [Value.oneCell']) (by first | decide | (simp [Value.cells]; done) | (simp [Value.cells]; omega)) ?_)
 refine L.as Z Z (L.nil (At.then (At.seq (At.region (L.mv Z Z (L.as Z Z (L.nil (At.then (At.ret ?_)))))))))
 exact aA [ap e p S] rfl Z ⟨rfl, rfl⟩ Ent.drop
set_option maxRecDepth 10000 in
theorem wj {e : Nat} {p : EA} {S : FK.En} (sd : Nat) : Does Tryz.prog G 211 [aL e, bc sd].toArray [ap e p S] fun v m => v = .tuple #[] ∧ m = [ap e p { S with seed := sd }] := by
 refine Does.body Tryz.func211 Z Z fun E fr hE => ?_
 refine ai (At.region (L.mv Z Z (L.mv Z Z (aN Z Z (aE 0 Z Z Z ?_)))))
 refine L.op Z (mT (S := S) (S' := { S with seed := sd }) Z Z Z (by omega) Z (fun _ _ _ => rfl) Z Z Z Z Z Z ?_)
 refine L.nil ?_
 exact aZ [ap e p { S with seed := sd }] rfl ⟨rfl, rfl⟩ (Ent.refl _)
theorem pt {S : FK.En} {q : FK.Pl} {nd : FK.Node} : (S.life q nd).runs = S.runs := by
 unfold FK.En.life
 split <;> rfl
theorem life_R {S : FK.En} {q : FK.Pl} {nd : FK.Node} {id : Nat} : (S.life q nd).getR id = S.getR id := by
 unfold FK.En.getR
 rw [pt]
set_option maxRecDepth 10000 in
theorem xF {e : Nat} {p : EA} {S : FK.En} {t id k : Nat} {wh : Int} {R : FK.Rn} {nd : FK.Node} (ht : (S.tasks.find? (·.1 == t)).map (·.2) = some ⟨id, (k : Int), wh⟩) (hR : S.getR id = some R) (hn : R.fl.nodes[k]? = some nd) (h1 : S.now ≤ 4611686018427387904) (h2 : nd.beat ≤ 4611686018427387904) (h3 : S.sets < 9223372036854775807) (hl : S.tms.length ≤ 99998) : Does Tryz.prog G 206 [aL e, bc t].toArray [ap e p S] fun v m => v = .tuple #[] ∧ m = [ap e p (S.life ⟨id, (k : Int), wh⟩ nd)] := by
 have hk := (List.getElem?_eq_some_iff.1 hn).1
 have htv : cw (cm S) t = some (fZ ⟨id, (k : Int), wh⟩) := by
  rw [iK]
  cases hf : S.tasks.find? (·.1 == t) with
  | none => rw [hf] at ht; cases ht
  | some x => rw [hf] at ht; injection ht with ht; simp only [Option.map_some, ht]
 refine Does.body Tryz.func206 Z Z fun E fr hE => ?_
 refine ai ?_
 refine eC (fun w hw => jB hR hn hw) fun hA => ?_
 obtain ⟨A, c, hu, -⟩ := hA
 refine At.seq (At.region (L.mv Z Z (aN Z Z (aE 2 Z Z Z ?_))))
 refine L.val Z (aa (v := .map (some p.tm)) Z Z) (aQ fun _ _ _ => rfl) ?_
 refine L.mv Z Z (L.val Z (eB (m := cm S) Z dD Z Z htv) j9 (L.op Z (aH (z := .agg #[.int .u64 0, .int .i64 0, .int .i64 0]) Z Z fun b4 => ?_)))
 refine L.op Z (aG Z (m := 3) Z Z Z Z (by simp [Value.oneCell']) (by first | decide | (simp [Value.cells]; done) | (simp [Value.cells]; omega)) ?_)
 refine L.nil (At.then (Dr.start Z (dP 0 Z Z (ag Z) ?_)))
 refine dL 1 Z Z (am (vs := fE ⟨id, (k : Int), wh⟩) Z Z Z Z) (av Z) ?_
 refine dP 2 Z Z (ag Z) (dP 3 Z Z (aq Z) (dP 4 Z Z (ab (off := 1) Z Z) ?_))
 refine dL 5 Z Z (aa Z Z) (aQ fun _ _ _ => rfl) ?_
 refine dP 6 Z Z (ab (off := 0) Z Z) (dL 7 Z Z (aa Z Z) (ae Z) (dL 8 Z Z (eB (a := id) (v := aL (p.fb id)) Z dD Z Z (eS hR)) cS (dP 9 Z Z (aq Z) (dP 10 Z Z (ab (off := 0) Z Z) (dP 11 Z Z (ab (off := 1) Z Z) (dL 12 Z Z (aa (v := (p.ra id).nv R) Z Z) (bN hR Z) (dP 13 Z Z (ab (off := 1) Z Z) (dL 14 Z Z (aa Z Z) (ae Z) (dP 15 Z Z (bD (z := 7) Z Z Z Z hk) (dL 16 Z Z (am (vs := aw nd (.slice A nd.after.length c)) Z Z Z Z) (de hR hn hu) ?_))))))))))
 refine dR 17 Z Z (ah Z Z Z hE (pu ⟨id, (k : Int), wh⟩ nd (.slice A nd.after.length c) h1 h2 h3 hl) (Ent.sel (.tail (.head))) ?_)
 rintro v m ⟨rfl, rfl⟩
 refine ai ?_
 refine Dr.kept [false, true, true, true, true, true, false] (by kernel_rfl) (Kept.cons (ae Z) (Kept.cons (bN (life_R.trans hR) Z) (Kept.cons (xt pt) (Kept.cons (ae Z) (Kept.cons (aQ (S := S.life ⟨id, (k : Int), wh⟩ nd) fun _ _ _ => rfl) Kept.nil))))) ?_
 refine dE ?_
 exact aZ [ap e p (S.life ⟨id, (k : Int), wh⟩ nd)] rfl ⟨rfl, rfl⟩ (Ent.cons Ent.drop)
end Go.Proofs.YtmeegfamopaljaaGreatDoor

namespace Go.SL
open Go Go.RowKit
section
variable {P : Program} {E : Env} {n : Nat} {D : List Deferred} {ts : List (Nat × Value)} {l : List HP} {Q : Exit → Act → World → Prop}
theorem z7 {c : Code} (h : At E n D ts l (c.wp P (Exit.noGoto Q))) : At E n D ts l ((Code.scope c).wp P Q) := fun a w f hw => wp_scope_straight (h a w f hw)
theorem uN (h : At E n D ts l (Q .normal)) : At E n D ts l (Exit.noGoto Q .normal) := h
end
end Go.SL
