/- A host: ahead of a call and behind it; errors as numbers. -/
import Derived.Test.YtmeegfamopaljaaGreatDoorHnI
import Derived.Test.YtmeegfamopaljaaGreatDoorHnD
import Derived.Shelf.Small.Bits
import Derived.Shelf.Strconv.Atoi
import Derived.Shelf.Strconv.Itoa0
import Derived.Shelf.Strconv.Itoa1
import Derived.Shelf.LaysM
import Derived.Shelf.Strconv.Itoa2
import Derived.Shelf.Strconv.Itoa3
import Derived.Shelf.Sort.Plain
import Derived.Shelf.Strings.Prefix
import Derived.Shelf.Slices.In.SortNone
import Derived.Shelf.Slices.In.SortNone2
import Derived.Test.YtmeegfamopaljaaGreatDoorChecked
import Derived.Test.YtmeegfamopaljaaGreatDoorHnH
import Derived.Sort.OwnSorted
import Derived.Test.YtmeegfamopaljaaGreatDoorHnE
import Derived.BigQuiet
import Derived.Test.YtmeegfamopaljaaGreatDoorHnB
set_option maxRecDepth 10000
namespace FK
structure Quiet (σ : Dsk) : Prop where
 down : σ.down = false
 left : σ.left = -1
 full : σ.full = -1
 pend : σ.pend = []
def Dsk.logs (σ : Dsk) (n : Nat) (s : ByteArray) : Dsk := { σ with now := dh σ.now ⟨2, bg n, s⟩, dur := dh σ.dur ⟨2, bg n, s⟩ }
def Dsk.rested (σ : Dsk) : Dsk := { σ with left := -1, full := -1 }
def Dsk.spent (σ : Dsk) : Dsk := { σ with left := -3, full := -3 }
theorem Quiet.logs {σ : Dsk} (h : Quiet σ) (n : Nat) (s : ByteArray) : Quiet (σ.logs n s) := ⟨h.down, h.left, h.full, h.pend⟩
theorem Quiet.rested {σ : Dsk} (h : Quiet σ) : σ.rested = σ := by
 obtain ⟨a, b, c, d, e, f⟩ := σ
 obtain ⟨h1, h2, h3, h4⟩ := h
 simp only at h2 h3
 subst h2; subst h3
 rfl
theorem Quiet.add {σ : Dsk} (h : Quiet σ) {J : Jn} (hJ : J.broken = 0) (s : ByteArray) : J.add σ s = (J, (σ.logs J.n s).spent, 0) := by
 obtain ⟨a, b, c, d, e, f⟩ := σ
 obtain ⟨h1, h2, h3, h4⟩ := h
 obtain ⟨n, t, br⟩ := J
 simp only at h1 h2 h3 h4 hJ
 subst h1; subst h2; subst h3; subst h4; subst hJ
 have e1 : Go.IntKind.i64.wrap (-2) = -2 := by decide
 have e2 : Go.IntKind.i64.wrap (-3) = -3 := by decide
 simp [Jn.add, Dsk.tell, Dsk.writes, Dsk.sync, e1, e2, Dsk.logs, Dsk.spent]
end FK
namespace Go.Proofs.YtmeegfamopaljaaGreatDoor
open Go Go.RowKit Go.SL
variable {G : Env → Prop}
abbrev eW (h d : Nat) (fp : Option Addr) : HP := blk h 118 #[aO d, .pointer fp]
abbrev bw (l fu ke pa : Int) : List Value := [.int .i64 l, .int .i64 fu, .int .i64 ke, .int .i64 pa]
abbrev ya (l fu ke pa : Int) : Value := .agg (bw l fu ke pa).toArray
abbrev eg : Value := ya (-1) (-1) 0 0
section
variable {P : List (Nat × ByteArray)} {fp : Option Addr} {d : Nat} {σ : FK.Dsk}
theorem cV : Does Tryz.prog G 18 [].toArray [] fun v m => v = eg ∧ m = [] := by
 refine Does.body Tryz.func18 Z Z fun E fr hE => ?_
 refine aL (At.seq (At.region (L.op Z (aN (z := .agg #[.int .i64 0, .int .i64 0, .int .i64 0, .int .i64 0]) Z Z fun b0 => (L.nil (At.then (At.seq (At.region (L.pure Z (bn (ps := [(0, .const (.int .i64 (-1))), (1, .const (.int .i64 (-1)))]) (vs := [.int .i64 (-1), .int .i64 (-1)]) (cs := (bw (-1) (-1) 0 0).toArray) Z Z Z Z Z) ?_)))))))))
 refine L.op Z (aK Z (m := 4) (vs := bw (-1) (-1) 0 0) Z Z Z Z (by simp [Value.oneCell']) (by show 0 + 4 ≤ 4; omega) ?_)
 exact aD b0 (bw (-1) (-1) 0 0).toArray Z (L.nil (At.then (At.ret (nl [] rfl (bZ (vs := bw (-1) (-1) 0 0) Z Z Z Z (aw Z)) ⟨rfl, rfl⟩ Ent.drop))))
theorem df {h : Nat} (l fu ke pa : Int) : Does Tryz.prog G 49 [aO h, ya l fu ke pa].toArray [eW h d fp, ak d σ] fun v m => v = .tuple #[] ∧ m = [eW h d fp, ak d { σ with left := l, full := fu }] := by
 refine Does.body Tryz.func49 Z Z fun E fr hE => ?_
 refine aJ ?_
 refine At.ex (.tail .head) fun q => bq ?_
 refine At.ent (l' := kD d q σ (eW h d fp :: fr)) (Ent.refl _) ?_
 refine At.seq (At.region (L.op Z (cb Z Z fun b3 => (L.nil (At.then (Dr.start Z (dP 0 Z Z (ae Z) (dP 1 Z Z (am Z) (dP 2 Z Z (ab (off := 0) Z Z) (dL 3 Z Z (aa Z Z) (ag Z) (dP 4 Z Z (ae Z) (dP 5 Z Z (am Z) (dP 6 Z Z (ab (off := 0) Z Z) (dL 7 Z Z (aa Z Z) (ag Z) (dP 8 Z Z (ab (off := 0) Z Z) (dL 9 Z Z (aa Z Z) (ag Z) (dP 10 Z Z (ab (off := 1) Z Z) (dL 11 Z Z (aa Z Z) (ag Z) (dP 12 Z Z (am Z) (dP 13 Z Z (ab (off := 3) Z Z) ?_))))))))))))))))))))
 refine dR 14 Z Z (bB Z Z Z Z Z (by first | decide | simp | (simp; omega)) ?_)
 refine dK [true, false, false, false] (Kept.cons (ag Z) Kept.nil) (dP 15 Z Z (am Z) (dP 16 Z Z (ab (off := 4) Z Z) ?_))
 refine dR 17 Z Z (bB Z Z Z Z Z (by first | decide | simp | (simp; omega)) ?_)
 refine dK [false] Kept.nil (dE ?_)
 refine aD d (ff q { σ with left := l, full := fu }) Z ?_
 refine bm [eW h d fp, ak d { σ with left := l, full := fu }] rfl ⟨rfl, rfl⟩ ?_
 refine Ent.trans ?_ ((bL (d := d) q { σ with left := l, full := fu } (r := eW h d fp :: fr)).trans (Ent.sel (.tail .head)))
 show Ent _ (blk d 131 (ff q { σ with left := l, full := fu }) :: aX q.md q.P σ.dur :: aX q.mn q.P σ.now :: dt q.P :: row 211 3 q.pv σ.pend.length (fx σ.pend) :: eW h d fp :: fr)
 exact al
theorem dA {h : Nat} (l fu ke pa : Int) (hd : σ.down = false) : Does Tryz.prog G 51 [aO h, ya l fu ke pa].toArray [eW h d fp, ak d σ] fun v m => v = .tuple #[] ∧ m = [eW h d fp, ak d σ.rested] := by
 obtain ⟨dur, now, pend, left, full, down⟩ := σ
 simp only at hd
 subst hd
 refine Does.body Tryz.func51 Z Z fun E fr hE => ?_
 refine aJ ?_
 refine At.ex (.tail .head) fun q => bq ?_
 refine At.ent (l' := kD d q ⟨dur, now, pend, left, full, false⟩ (eW h d fp :: fr)) (Ent.refl _) ?_
 refine At.seq (At.region (L.op Z (cb Z Z fun b3 => (L.nil (At.then (At.seq (At.seq (At.region (L.mv Z Z (aR Z Z (aI 0 Z Z Z (bd Z Z Z Z (aR Z Z (aI 5 Z Z Z (bd Z Z Z Z (L.nil (At.then (aj Z (At.skip (At.then ?_))))))))))))))))))))
 refine Dr.start Z (dP 0 Z Z (ae Z) (dP 1 Z Z (am Z) (dP 2 Z Z (ab (off := 0) Z Z) (dL 3 Z Z (aa Z Z) (ag Z) (dP 4 Z Z (ae Z) (dP 5 Z Z (am Z) (dP 6 Z Z (ab (off := 0) Z Z) (dL 7 Z Z (aa Z Z) (ag Z) (dP 8 Z Z (am Z) (dP 9 Z Z (ab (off := 3) Z Z) ?_))))))))))
 refine dR 10 Z Z (bB Z Z Z Z Z (by first | decide | simp | (simp; omega)) ?_)
 refine dK [false, false] Kept.nil (dP 11 Z Z (am Z) (dP 12 Z Z (ab (off := 4) Z Z) ?_))
 refine dR 13 Z Z (bB Z Z Z Z Z (by first | decide | simp | (simp; omega)) ?_)
 refine dK [] Kept.nil (dE (aD d (ff q ⟨dur, now, pend, -1, -1, false⟩) Z (bm [eW h d fp, ak d ⟨dur, now, pend, -1, -1, false⟩] rfl ⟨rfl, rfl⟩ ?_)))
 refine Ent.trans ?_ ((bL (d := d) q ⟨dur, now, pend, -1, -1, false⟩ (r := eW h d fp :: fr)).trans (Ent.sel (.tail .head)))
 show Ent _ (blk d 131 (ff q ⟨dur, now, pend, -1, -1, false⟩) :: aX q.md q.P dur :: aX q.mn q.P now :: dt q.P :: row 211 3 q.pv pend.length (fx pend) :: eW h d fp :: fr)
 exact al
theorem f6 : Does Tryz.prog Good 54 [.nilIface].toArray [] fun v m => v = .int .i64 0 ∧ m = [] := by
 refine Does.body Tryz.func54 Z Z fun E fr hE => ?_
 refine aL (At.seq (At.region (L.as Z Z (L.nil (At.then (At.seq (At.region (L.mv Z Z ?_))))))))
 refine L.op Z (ah Z Z Z hE nF (Ent.refl _) ?_)
 rintro v m ⟨rfl, rfl⟩
 exact aL (L.mv Z Z (L.ex Z Z Z (L.ex Z Z Z (L.as Z Z (L.as Z Z (L.nil (At.then (At.seq (At.region (L.mv Z Z (L.as Z Z (L.nil (At.then (At.ret (aA [] rfl Z ⟨rfl, rfl⟩ (Ent.refl _))))))))))))))))
theorem qS (n : Int) : Does Tryz.prog Good 54 [.iface 48 (.int .i64 n)].toArray [] fun v m => v = .int .i64 n ∧ m = [] := by
 refine Does.body Tryz.func54 Z Z fun E fr hE => ?_
 refine aL (At.seq (At.region (L.as Z Z (L.nil (At.then (At.seq (At.region (L.mv Z Z ?_))))))))
 refine L.op Z (ah Z Z Z hE (tW n) (Ent.refl _) ?_)
 rintro v m ⟨rfl, rfl⟩
 exact aL (L.mv Z Z (L.ex Z Z Z (L.ex Z Z Z (L.as Z Z (L.as Z Z (L.nil (At.then (At.seq (At.region (L.mv Z Z (L.as Z Z (L.nil (At.then (At.ret (aA [] rfl Z ⟨rfl, rfl⟩ (Ent.refl _))))))))))))))))
theorem jq (n : Int) : Does Tryz.prog Good 54 [ef n].toArray [] fun v m => v = .int .i64 n ∧ m = [] := by
 unfold ef
 split
 · subst n
   exact f6
 · exact qS n
theorem kP {α : Type} {x : α} : ∀ {l : List α} {j : Nat}, l[j]? = some x → l.Perm (x :: l.eraseIdx j)
 | [], _, h => by simp at h
 | y :: l, 0, h => by simp at h; subst h; exact List.Perm.refl _
 | y :: l, j + 1, h => by
  have := kP (l := l) (j := j) (by simpa using h)
  rw [List.eraseIdx_cons_succ]
  exact (List.Perm.cons y this).trans (List.Perm.swap x y _)
theorem Names.perm {M M' : List (ByteArray × Nat)} (h : M.Perm M') : ∀ {fs : FK.mU}, Names P M fs → ∃ fs', Names P M' fs' ∧ fs'.Perm fs := by
 induction h with
 | nil => exact fun h => ⟨_, h, List.Perm.refl _⟩
 | cons x _ ih =>
  intro fs h
  cases h with
  | cons a t =>
   obtain ⟨fs', h1, h2⟩ := ih t
   exact ⟨_, .cons a h1, List.Perm.cons _ h2⟩
 | swap x y l =>
  intro fs h
  cases h with
  | cons a t =>
   cases t with
   | cons b t => exact ⟨_, .cons b (.cons a t), List.Perm.swap _ _ _⟩
 | trans _ _ ih1 ih2 =>
  intro fs h
  obtain ⟨f1, h1, h2⟩ := ih1 h
  obtain ⟨f2, h3, h4⟩ := ih2 h1
  exact ⟨f2, h3, h4.trans h2⟩
theorem Names.keys {P : List (Nat × ByteArray)} : ∀ {M : List (ByteArray × Nat)} {fs : FK.mU}, Names P M fs → M.map (·.1) = fs.map (·.1)
 | _, _, .nil => rfl
 | _, _, .cons _ t => by simp only [List.map_cons, t.keys]
theorem zw {V : Type} {m : List (ByteArray × V)} {a : ByteArray} (h : a ∉ m.map (·.1)) (v : V) : FK.fQ m a v = m ++ [(a, v)] := by
 refine FK.pJ ?_ v
 unfold FK.dO
 have : m.find? (·.1 == a) = none := by
  rw [List.find?_eq_none]
  intro x hx he
  have := (MapKept.bytes_beq _ _).1 he
  exact h (by rw [← this]; exact List.mem_map_of_mem (f := (·.1)) hx)
 rw [this]
 rfl
set_option maxHeartbeats 1000000 in
theorem vp {md : Nat} {nv pv : Value} {l fu : Int} {dn : Bool} {dur : FK.mU} (hn : (dur.map (·.1)).Nodup) : Does Tryz.prog G 62 [aO d].toArray [blk d 131 #[.map (some md), nv, pv, .int .i64 l, .int .i64 fu, .bool dn], aX md P dur, dt P] fun v m => v = .tuple #[] ∧ ∃ now', now'.Perm dur ∧ m = [ak d ⟨dur, now', [], l, fu, false⟩] := by
 refine Does.body Tryz.func62 Z Z fun E fr hE => ?_
 refine cE ?_
 refine At.ex (.tail .head) fun M => bq ?_
 refine At.ent (l' := HP.pure (Names P M dur) :: bP bH md (cQ M) :: blk d 131 #[.map (some md), nv, pv, .int .i64 l, .int .i64 fu, .bool dn] :: dt P :: fr) (Ent.refl _) ?_
 refine At.pure .head fun hN => ?_
 have hMn : (M.map (·.1)).Nodup := by rw [hN.keys]; exact hn
 refine At.seq (At.region (L.mv Z Z (L.op Z (fZ bH Z fun b5 => (aR Z Z (aI 1 Z Z Z ?_))))))
 refine L.st Z Z Z Z (by first | decide | simp | (simp; omega)) ?_
 refine aD d #[.map (some md), .map (some b5), pv, .int .i64 l, .int .i64 fu, .bool dn] rfl (L.nil (At.then (At.seq (At.seq (At.region (L.mv Z Z (aR Z Z (aI 0 Z Z Z (bd Z Z Z Z (L.op Z (m8 (b := md) (m := cQ M) Z Z Z (.tail (.tail .head)) fun it => (L.nil (At.then (At.block ?_))))))))))))))
 refine bk (X := List (ByteArray × Nat) × Option (ByteArray × Value) × List (ByteArray × Nat)) (fun _ => [(12, .pointer (some ⟨it, 0, none⟩)), (0, aO d)]) (fun x => cR bH it md (cQ M) (cQ x.1) x.2.1 :: bP bH b5 (cQ x.2.2) :: blk d 131 #[.map (some md), .map (some b5), pv, .int .i64 l, .int .i64 fu, .bool dn] :: dt P :: fr) (fun x => M.Perm (x.2.2 ++ x.1)) (fun x => x.1.length) (M, none, []) (List.Perm.refl _) ⟨rfl, rfl, trivial⟩ (by show Ent _ (cR bH it md (cQ M) (cQ M) none :: bP bH b5 [] :: blk d 131 #[.map (some md), .map (some b5), pv, .int .i64 l, .int .i64 fu, .bool dn] :: dt P :: fr); exact al) ?_
 rintro ⟨left, cur, done⟩ hperm
 replace hperm : M.Perm (done ++ left) := hperm
 refine At.ent (l' := cR bH it md (cQ M) (cQ left) cur :: bP bH b5 (cQ done) :: blk d 131 #[.map (some md), .map (some b5), pv, .int .i64 l, .int .i64 fu, .bool dn] :: dt P :: fr) (Ent.refl _) ?_
 refine At.seq ?_
 by_cases HL : left = []
 ·
  subst HL
  refine At.region ?_
  refine L.op Z (kH Z Z .head (fun _ => ?_) (fun j q hj => by simp at hj))
  refine L.ex Z Z Z (L.nil (At.then (At.seq (aj Z (At.exit (az (ay (ar (At.then (At.seq ?_))))))))))
  rw [List.append_nil] at hperm
  obtain ⟨now', hN', hpn⟩ := Names.perm hperm hN
  refine At.region (L.mv Z Z (aR Z Z (aI 2 Z Z Z ?_)))
  refine L.st Z Z Z Z (by first | decide | simp | (simp; omega)) ?_
  refine L.nil (At.then (At.region (L.mv Z Z (aR Z Z (aI 5 Z Z Z ?_)))))
  refine L.st Z Z Z Z (by first | decide | simp | (simp; omega)) ?_
  refine L.nil (aD d (ff ⟨md, b5, .slice none 0 0, P⟩ ⟨dur, now', [], l, fu, false⟩) Z (bm [ak d ⟨dur, now', [], l, fu, false⟩] rfl ⟨rfl, now', hpn, rfl⟩ ?_))
  refine Ent.trans ?_ (bL ⟨md, b5, .slice none 0 0, P⟩ ⟨dur, now', [], l, fu, false⟩)
  refine (Ent.sel (p := cR bH it md (cQ M) (cQ []) none) (.tail .head)).trans (Ent.ranged.trans ((bV hN).trans ?_))
  refine (Ent.sel (p := bP bH b5 (cQ done)) (.tail (.tail .head))).trans ((bV hN').trans ?_)
  refine (Ent.row0 (e := 211) (size := 3)).trans ?_
  show Ent _ (blk d 131 (ff ⟨md, b5, .slice none 0 0, P⟩ ⟨dur, now', [], l, fu, false⟩) :: aX md P dur :: aX b5 P now' :: dt P :: row 211 3 (.slice none 0 0) 0 [] :: fr)
  exact al
 ·
  refine At.region ?_
  refine L.op Z (kH Z Z .head (fun h => absurd (List.map_eq_nil_iff.1 h) HL) (fun j q hj => ?_))
  obtain ⟨x, hx, rfl⟩ : ∃ x, left[j]? = some x ∧ (x.1, aO x.2) = q := by
   rw [List.getElem?_map] at hj
   cases hl : left[j]? with
   | none => rw [hl] at hj; cases hj
   | some x => rw [hl] at hj; injection hj with hj; exact ⟨x, rfl, hj⟩
  have hjl := (List.getElem?_eq_some_iff.1 hx).1
  have hpe := kP hx
  have hp2 : M.Perm ((done ++ [x]) ++ left.eraseIdx j) := by
   rw [List.append_assoc]
   exact hperm.trans (List.Perm.append_left done hpe)
  have hnew : x.1 ∉ done.map (·.1) := by
   have := (hp2.map (·.1)).nodup_iff.1 hMn
   rw [List.map_append, List.map_append, List.append_assoc, List.nodup_append] at this
   intro hm
   exact this.2.2 _ hm _ (by simp) Z
  rw [← fq]
  refine L.ex Z Z Z (L.nil (At.then (At.seq (aQ Z (At.skip (At.then (At.block (At.seq (At.region (L.val Z (nU (p := (x.1, aO x.2)) Z) (lb .head) (L.ex Z Z Z (L.ex Z Z Z (L.as Z Z (L.as Z Z (L.nil (At.then (At.region (L.mv Z Z (aR Z Z ?_)))))))))))))))))))
  refine aI 1 Z Z Z (bd Z Z Z Z (L.mv Z Z (L.mv Z Z (L.op Z (qf (a := x.1) (v := aO x.2) Z Z hK Z Z Z (.tail .head) ?_)))))
  rw [rC, zw hnew]
  refine L.nil (an ?_)
  exact At.round (left.eraseIdx j, some (x.1, aO x.2), done ++ [x]) hp2 (by show (left.eraseIdx j).length < left.length; rw [List.length_eraseIdx_of_lt hjl]; omega) ⟨rfl, rfl, trivial⟩ (by show Ent _ (cR bH it md (cQ M) (cQ (left.eraseIdx j)) (some (x.1, aO x.2)) :: bP bH b5 (cQ (done ++ [x])) :: blk d 131 #[.map (some md), .map (some b5), pv, .int .i64 l, .int .i64 fu, .bool dn] :: dt P :: fr); exact al)
theorem qU : Does Tryz.prog G 27 [].toArray [] fun v m => ∃ h d, v = aO h ∧ m = [eW h d none, ak d ⟨[], [], [], -1, -1, false⟩] := by
 refine Does.body Tryz.func27 Z Z fun E fr hE => ?_
 refine aL (At.seq (At.region (L.as Z Z (L.nil (At.then (At.seq (At.region (L.op Z (fZ bH Z fun b2 => (L.pure Z (bn (ps := [(0, .tmp 2), (3, .const (.int .i64 (-1))), (4, .const (.int .i64 (-1)))]) (vs := [.map (some b2), .int .i64 (-1), .int .i64 (-1)]) (cs := #[.map (some b2), .map none, .slice none 0 0, .int .i64 (-1), .int .i64 (-1), .bool false]) Z Z Z Z Z) (L.op Z (cb Z Z fun b4 => (L.pure Z (bn (ps := [(0, .tmp 4)]) (vs := [aO b4]) (cs := #[aO b4, .pointer none]) Z Z Z Z Z) (L.op Z (cb Z Z fun b6 => (L.as Z Z (L.nil (At.then (At.seq (At.region (L.mv Z Z (aR Z Z ?_))))))))))))))))))))))
 refine aI 0 Z Z Z (bd Z Z Z Z ?_)
 refine L.op Z (ah Z Z Z hE (vp (md := b2) (P := []) (dur := []) (by simp)) ((aP (.tail .head) (.tail .head)).trans (Ent.cons ((bV (M := []) .nil).trans (Ent.cons (Ent.all (m := [])))))) ?_)
 rintro v m ⟨rfl, now', hpn, rfl⟩
 refine ai (L.nil (At.then (At.seq (At.region (L.mv Z Z (L.as Z Z (L.nil (At.then (At.ret ?_)))))))))
 have hz : now' = [] := List.Perm.eq_nil hpn
 subst hz
 exact aA [eW b6 b4 none, ak b4 ⟨[], [], [], -1, -1, false⟩] rfl Z ⟨b6, b4, rfl, rfl⟩ (Ent.sel (.tail .head))
end
end Go.Proofs.YtmeegfamopaljaaGreatDoor

set_option maxHeartbeats 1000000
set_option maxRecDepth 10000
namespace Go.SL
open Go Go.RowKit
section
variable {ts : List (Nat × Value)} {K : Act → World → Prop} {D : List Deferred} {fr : List HP}
theorem nn {E : Env} {n : Nat} {p0 p1 p2 p3 p4 p5 : HP} (h : At E n D ts (p0 :: p1 :: p2 :: p3 :: p4 :: p5 :: fr) K) : At E n D ts ([p0, p1, p2, p3, p4, p5] ++ fr) K := h
theorem qL {E : Env} {n : Nat} {p0 p1 p2 p3 p4 p5 p6 : HP} (h : At E n D ts (p0 :: p1 :: p2 :: p3 :: p4 :: p5 :: p6 :: fr) K) : At E n D ts ([p0, p1, p2, p3, p4, p5, p6] ++ fr) K := h
end
end Go.SL
namespace Go.Proofs.YtmeegfamopaljaaGreatDoor
open Go Go.RowKit Go.SL
abbrev aW (h d f : Nat) : HP := eW h d (some ⟨f, 0, none⟩)
abbrev bC (h f e j d : Nat) (p : EA) (S : FK.En) (J : FK.Jn) (σ : FK.Dsk) : List HP := aW h d f :: cd f e j d p S J σ
abbrev cH (σ : FK.Dsk) (J : FK.Jn) (op n : Nat) : FK.Dsk := σ.logs J.n (dr (FK.frame (FK.aV op n)))
section
variable {σ : FK.Dsk} {Q : Int → FK.En → FK.Jn → FK.Dsk → Prop} {S : FK.En} {J : FK.Jn} {d e f h j n : Nat} {R : FK.Rn} {P : FK.Pl}
theorem jb (h : FK.Quiet σ) : ({ σ with left := -1, full := -1 } : FK.Dsk) = σ := h.rested
theorem qv (h : FK.Quiet σ) : σ.spent.rested = σ := h.rested
theorem ix {p : EA} (hQ : FK.Quiet σ) (hq : S.CH = []) : Does Tryz.prog Good 24 [aO h, eg].toArray (bC h f e j d p S J σ) fun v m => v = .tuple #[gc 0 0 0 0, .bool false, .int .i64 0] ∧ m = bC h f e j d p S J σ := by
 refine Does.body Tryz.func24 Z Z fun E fr hE => ?_
 refine bF (At.seq (At.region (L.op Z (cb Z Z fun b3 => (L.op Z (aN (z := .agg #[.int .u64 0, .int .i64 0, .int .i64 0, .int .u64 0]) Z Z fun b4 => (L.as Z Z (L.as Z Z (L.nil (At.then (At.seq (At.seq (At.region (L.mv Z Z (aR Z Z (aI 1 Z Z Z (bd Z Z Z Z (L.pure Z (cX Z Z Z) (L.nil (At.then (aj Z ?_)))))))))))))))))))))
 refine At.skip (At.then (At.seq (At.region (L.mv Z Z (L.val Z (ao (vs := bw (-1) (-1) 0 0) Z Z Z Z) (aw Z) ?_)))))
 refine L.op Z (ah Z Z Z hE (df (-1) (-1) 0 0) (aP (.tail (.tail .head)) (.tail (.tail (.tail (.tail (.tail .head)))))) ?_)
 rintro v m ⟨rfl, rfl⟩
 refine aJ ?_
 rw [jb hQ]
 refine At.ent (l' := cD f e j :: ap e p S :: au j d J :: ak d σ :: aW h d f :: blk b4 55 (bh 0 0 0 0).toArray :: blk b3 41 (bw (-1) (-1) 0 0).toArray :: fr) (by show Ent (_ :: _ :: blk b4 55 (bh 0 0 0 0).toArray :: blk b3 41 (bw (-1) (-1) 0 0).toArray :: _) _; exact al) ?_
 refine L.nil (At.then (At.seq (At.region (L.mv Z Z (aR Z Z (aI 1 Z Z Z (bd Z Z Z Z ?_)))))))
 refine L.op Z (ah Z Z Z hE (sZ hq) (Ent.refl _) ?_)
 rintro v m ⟨rfl, rfl⟩
 refine cB (L.mv Z Z (L.ex Z Z Z (L.ex Z Z Z (L.ex Z Z Z (L.op Z (aN (z := .agg #[.int .u64 0, .int .i64 0, .int .i64 0, .int .u64 0]) Z Z fun b7 => ?_))))))
 refine L.op Z (aK Z (m := 4) (vs := bh 0 0 0 0) Z Z Z Z (by simp [Value.oneCell']) (by show 0 + 4 ≤ 4; omega) ?_)
 refine aD b7 (bh 0 0 0 0).toArray Z (L.as Z Z (L.as Z Z (L.nil (At.then (At.seq ?_)))))
 refine At.ent (l' := aW h d f :: ak d σ :: cD f e j :: ap e p S :: au j d J :: blk b7 55 (bh 0 0 0 0).toArray :: blk b4 55 (bh 0 0 0 0).toArray :: blk b3 41 (bw (-1) (-1) 0 0).toArray :: fr) al ?_
 refine At.region (L.mv Z Z (L.val Z (ao (vs := bw (-1) (-1) 0 0) Z Z Z Z) (aw Z) ?_))
 refine L.op Z (ah Z Z Z hE (dA (-1) (-1) 0 0 hQ.down) (Ent.refl _) ?_)
 rintro v m ⟨rfl, rfl⟩
 refine aJ ?_
 rw [hQ.rested]
 refine L.nil (At.then (At.seq (Dr.start Z (dL 0 Z Z (ao (vs := bh 0 0 0 0) Z Z Z Z) (aw Z) (dP 1 Z Z (ae Z) (dP 2 Z Z (ae Z) ?_))))))
 refine dR 3 Z Z (ah Z Z Z hE f6 (Ent.refl _) ?_)
 rintro v m ⟨rfl, rfl⟩
 refine aL (dK [true] (Kept.cons (aw Z) Kept.nil) ?_)
 refine dR 4 Z Z (aK Z (m := 4) (vs := bh 0 0 0 0) Z Z Z Z (by simp [Value.oneCell']) (by show 0 + 4 ≤ 4; omega) ?_)
 refine dK [false] Kept.nil (dP 5 Z Z (ax Z) (dP 6 Z Z (ax Z) (dE (At.then (At.ret (aD b4 (bh 0 0 0 0).toArray Z (ir (bC h f e j d p S J σ) Z (bZ (vs := bh 0 0 0 0) Z Z Z Z (aw Z)) (Res.tmp Z) (Res.tmp Z) ⟨rfl, rfl⟩ ?_)))))))
 show Ent _ (aW h d f :: cD f e j :: ap e p S :: au j d J :: ak d σ :: fr)
 exact al
theorem fw {p : EA} (hS : FK.Ok S) (hJ : J.n < 1000000) (hb : J.broken = 0) (hr : Roomy σ) (hQ : FK.Quiet σ) {id k : Nat} {q : List FK.Pl} {s : FK.Sp} {nd : FK.Node} (hq : S.CH = ⟨id, (k : Int), 0⟩ :: q) (hR : S.getR id = some R) (hs : R.CF[k]? = some s) (hn : R.fl.CG[k]? = some nd) (hsets : S.sets + 1 < 9223372036854775807) (htok : S.CC < 9223372036854775807) : Does Tryz.prog Good 24 [aO h, eg].toArray (bC h f e j d p S J σ) fun v m => v = .tuple #[gc id k (s.CE + 1) (S.CC + 1), .bool true, .int .i64 0] ∧ m = bC h f e j d p (S.hand ⟨id, (k : Int), 0⟩ q R s nd) J (cH σ J 2 0) := by
 have hadd := hQ.add hb (dr (FK.frame (FK.aV 2 0)))
 refine Does.body Tryz.func24 Z Z fun E fr hE => ?_
 refine bF (At.seq (At.region (L.op Z (cb Z Z fun b3 => (L.op Z (aN (z := .agg #[.int .u64 0, .int .i64 0, .int .i64 0, .int .u64 0]) Z Z fun b4 => (L.as Z Z (L.as Z Z (L.nil (At.then (At.seq (At.seq (At.region (L.mv Z Z (aR Z Z (aI 1 Z Z Z (bd Z Z Z Z (L.pure Z (cX Z Z Z) (L.nil (At.then (aj Z ?_)))))))))))))))))))))
 refine At.skip (At.then (At.seq (At.region (L.mv Z Z (L.val Z (ao (vs := bw (-1) (-1) 0 0) Z Z Z Z) (aw Z) ?_)))))
 refine L.op Z (ah Z Z Z hE (df (-1) (-1) 0 0) (aP (.tail (.tail .head)) (.tail (.tail (.tail (.tail (.tail .head)))))) ?_)
 rintro v m ⟨rfl, rfl⟩
 refine aJ ?_
 rw [jb hQ]
 refine At.ent (l' := cD f e j :: ap e p S :: au j d J :: ak d σ :: aW h d f :: blk b4 55 (bh 0 0 0 0).toArray :: blk b3 41 (bw (-1) (-1) 0 0).toArray :: fr) (by show Ent (_ :: _ :: blk b4 55 (bh 0 0 0 0).toArray :: blk b3 41 (bw (-1) (-1) 0 0).toArray :: _) _; exact al) ?_
 refine L.nil (At.then (At.seq (At.region (L.mv Z Z (aR Z Z (aI 1 Z Z Z (bd Z Z Z Z ?_)))))))
 refine L.op Z (ah Z Z Z hE (sY hS hJ hr hq hR hs hn hsets htok) (Ent.refl _) ?_)
 rintro v m hv
 obtain ⟨rfl, rfl⟩ : v = .tuple #[gc id k (s.CE + 1) (S.CC + 1), .bool true, .nilIface] ∧ m = cd f e j d p (S.hand ⟨id, (k : Int), 0⟩ q R s nd) J (cH σ J 2 0).spent := by
  unfold lB at hv
  rw [hadd] at hv
  rcases hv with ⟨_, h1, h2⟩ | ⟨h1, _⟩
  · exact ⟨h1, h2⟩
  · exact absurd Z h1
 refine cB (L.mv Z Z (L.ex Z Z Z (L.ex Z Z Z (L.ex Z Z Z (L.op Z (aN (z := .agg #[.int .u64 0, .int .i64 0, .int .i64 0, .int .u64 0]) Z Z fun b7 => ?_))))))
 refine L.op Z (aK Z (m := 4) (vs := bh id k (s.CE + 1) (S.CC + 1)) Z Z Z Z (by simp [Value.oneCell']) (by show 0 + 4 ≤ 4; omega) ?_)
 refine aD b7 (bh id k (s.CE + 1) (S.CC + 1)).toArray Z (L.as Z Z (L.as Z Z (L.nil (At.then (At.seq ?_)))))
 refine At.ent (l' := aW h d f :: ak d (cH σ J 2 0).spent :: cD f e j :: ap e p (S.hand ⟨id, (k : Int), 0⟩ q R s nd) :: au j d J :: blk b7 55 (bh id k (s.CE + 1) (S.CC + 1)).toArray :: blk b4 55 (bh 0 0 0 0).toArray :: blk b3 41 (bw (-1) (-1) 0 0).toArray :: fr) al ?_
 refine At.region (L.mv Z Z (L.val Z (ao (vs := bw (-1) (-1) 0 0) Z Z Z Z) (aw Z) ?_))
 refine L.op Z (ah Z Z Z hE (dA (σ := (cH σ J 2 0).spent) (-1) (-1) 0 0 hQ.down) (Ent.refl _) ?_)
 rintro v m ⟨rfl, rfl⟩
 refine aJ ?_
 rw [qv (hQ.logs _ _)]
 refine L.nil (At.then (At.seq (Dr.start Z (dL 0 Z Z (ao (vs := bh id k (s.CE + 1) (S.CC + 1)) Z Z Z Z) (aw Z) (dP 1 Z Z (ae Z) (dP 2 Z Z (ae Z) ?_))))))
 refine dR 3 Z Z (ah Z Z Z hE f6 (Ent.refl _) ?_)
 rintro v m ⟨rfl, rfl⟩
 refine aL (dK [true] (Kept.cons (aw Z) Kept.nil) ?_)
 refine dR 4 Z Z (aK Z (m := 4) (vs := bh id k (s.CE + 1) (S.CC + 1)) Z Z Z Z (by simp [Value.oneCell']) (by show 0 + 4 ≤ 4; omega) ?_)
 refine dK [false] Kept.nil (dP 5 Z Z (ax Z) (dP 6 Z Z (ax Z) (dE (At.then (At.ret (aD b4 (bh id k (s.CE + 1) (S.CC + 1)).toArray Z (ir (bC h f e j d p (S.hand ⟨id, (k : Int), 0⟩ q R s nd) J (cH σ J 2 0)) Z (bZ (vs := bh id k (s.CE + 1) (S.CC + 1)) Z Z Z Z (aw Z)) (Res.tmp Z) (Res.tmp Z) ⟨rfl, rfl⟩ ?_)))))))
 show Ent _ (aW h d f :: cD f e j :: ap e p (S.hand ⟨id, (k : Int), 0⟩ q R s nd) :: au j d J :: ak d (cH σ J 2 0) :: fr)
 exact al
theorem pL {p : EA} (hQ : FK.Quiet σ)
 (hC : Does Tryz.prog Good 56 [aO f, aY n].toArray (cd f e j d p S J σ) fun v m => ∃ c U J' σ', v = ef c ∧ σ'.down = false ∧ Q c U J' σ' ∧ m = cd f e j d p U J' σ') : Does Tryz.prog Good 25 [aO h, .int .i64 4, aY n, eg].toArray (bC h f e j d p S J σ) fun v m => ∃ c U J' σ', v = .int .i64 c ∧ Q c U J' σ' ∧ m = bC h f e j d p U J' σ'.rested := by
 refine Does.body Tryz.func25 Z Z fun E fr hE => ?_
 refine bF (At.seq (At.region (L.op Z (cb Z Z fun b7 => (L.as Z Z (L.nil (At.then (At.seq (At.seq (At.region (L.mv Z Z (aR Z Z (aI 1 Z Z Z (bd Z Z Z Z (L.pure Z (cX Z Z Z) (L.nil (At.then (aj Z (At.skip (At.then ?_))))))))))))))))))))
 refine At.seq (At.region (L.mv Z Z (L.val Z (ao (vs := bw (-1) (-1) 0 0) Z Z Z Z) (aw Z) ?_)))
 refine L.op Z (ah Z Z Z hE (df (-1) (-1) 0 0) (aP (.tail .head) (.tail (.tail (.tail (.tail .head))))) ?_)
 rintro v m ⟨rfl, rfl⟩
 refine aJ ?_
 rw [jb hQ]
 refine At.ent (l' := cD f e j :: ap e p S :: au j d J :: ak d σ :: aW h d f :: blk b7 41 (bw (-1) (-1) 0 0).toArray :: fr) (by show Ent (_ :: _ :: blk b7 41 (bw (-1) (-1) 0 0).toArray :: _) _; exact al) ?_
 refine L.nil (At.then (At.seq (At.region (L.as Z Z (L.nil (At.then (At.seq (At.seq (At.region (L.mv Z Z (L.nil (At.then (At.block (At.seq (At.region (L.pure Z (aH Z Z Z) (L.as Z Z (L.nil (At.then ?_)))))))))))))))))))
 refine aj Z (At.seq (At.region (L.pure Z (aH Z Z Z) (L.as Z Z (L.nil (At.then (aQ Z (At.region (L.mv Z Z (aR Z Z (aI 1 Z Z Z (bd Z Z Z Z (L.mv Z Z ?_)))))))))))))
 refine L.op Z (ah Z Z Z hE hC (Ent.refl _) ?_)
 rintro v m ⟨c, U, J', σ', rfl, hdn, hQ', rfl⟩
 refine cB (L.as Z Z (L.nil (an (At.then (At.seq ?_)))))
 refine At.ent (l' := aW h d f :: ak d σ' :: cD f e j :: ap e p U :: au j d J' :: blk b7 41 (bw (-1) (-1) 0 0).toArray :: fr) al ?_
 refine At.region (L.mv Z Z (L.val Z (ao (vs := bw (-1) (-1) 0 0) Z Z Z Z) (aw Z) ?_))
 refine L.op Z (ah Z Z Z hE (dA (-1) (-1) 0 0 hdn) (Ent.refl _) ?_)
 rintro v m ⟨rfl, rfl⟩
 refine aJ (L.nil (At.then (At.seq (At.region (L.mv Z Z ?_)))))
 refine L.op Z (ah Z Z Z hE (jq c) (Ent.refl _) ?_)
 rintro v m ⟨rfl, rfl⟩
 refine aL (L.as Z Z (L.nil (At.then (At.ret (aA (bC h f e j d p U J' σ'.rested) Z Z ⟨c, U, J', σ', rfl, hQ', rfl⟩ ?_)))))
 show Ent _ (aW h d f :: cD f e j :: ap e p U :: au j d J' :: ak d σ'.rested :: fr)
 exact al
theorem pK {p : EA} (hQ : FK.Quiet σ)
 (hC : Does Tryz.prog Good 57 [aO f, aY n].toArray (cd f e j d p S J σ) fun v m => ∃ c U J' σ', v = ef c ∧ σ'.down = false ∧ Q c U J' σ' ∧ m = cd f e j d p U J' σ') : Does Tryz.prog Good 25 [aO h, .int .i64 5, aY n, eg].toArray (bC h f e j d p S J σ) fun v m => ∃ c U J' σ', v = .int .i64 c ∧ Q c U J' σ' ∧ m = bC h f e j d p U J' σ'.rested := by
 refine Does.body Tryz.func25 Z Z fun E fr hE => ?_
 refine bF (At.seq (At.region (L.op Z (cb Z Z fun b7 => (L.as Z Z (L.nil (At.then (At.seq (At.seq (At.region (L.mv Z Z (aR Z Z (aI 1 Z Z Z (bd Z Z Z Z (L.pure Z (cX Z Z Z) (L.nil (At.then (aj Z (At.skip (At.then ?_))))))))))))))))))))
 refine At.seq (At.region (L.mv Z Z (L.val Z (ao (vs := bw (-1) (-1) 0 0) Z Z Z Z) (aw Z) ?_)))
 refine L.op Z (ah Z Z Z hE (df (-1) (-1) 0 0) (aP (.tail .head) (.tail (.tail (.tail (.tail .head))))) ?_)
 rintro v m ⟨rfl, rfl⟩
 refine aJ ?_
 rw [jb hQ]
 refine At.ent (l' := cD f e j :: ap e p S :: au j d J :: ak d σ :: aW h d f :: blk b7 41 (bw (-1) (-1) 0 0).toArray :: fr) (by show Ent (_ :: _ :: blk b7 41 (bw (-1) (-1) 0 0).toArray :: _) _; exact al) ?_
 refine L.nil (At.then (At.seq (At.region (L.as Z Z (L.nil (At.then (At.seq (At.seq (At.region (L.mv Z Z (L.nil (At.then (At.block (At.seq (At.region (L.pure Z (aH Z Z Z) (L.as Z Z (L.nil (At.then ?_)))))))))))))))))))
 refine aj Z (At.seq (At.region (L.pure Z (aH Z Z Z) (L.as Z Z (L.nil (At.then (aj Z (At.seq (At.region (L.pure Z (aH Z Z Z) (L.as Z Z (L.nil (At.then (aQ Z (At.region (L.mv Z Z (aR Z Z (aI 1 Z Z Z (bd Z Z Z Z ?_)))))))))))))))))))
 refine L.mv Z Z ?_
 refine L.op Z (ah Z Z Z hE hC (Ent.refl _) ?_)
 rintro v m ⟨c, U, J', σ', rfl, hdn, hQ', rfl⟩
 refine cB (L.as Z Z (L.nil (an (At.then (At.seq ?_)))))
 refine At.ent (l' := aW h d f :: ak d σ' :: cD f e j :: ap e p U :: au j d J' :: blk b7 41 (bw (-1) (-1) 0 0).toArray :: fr) al ?_
 refine At.region (L.mv Z Z (L.val Z (ao (vs := bw (-1) (-1) 0 0) Z Z Z Z) (aw Z) ?_))
 refine L.op Z (ah Z Z Z hE (dA (-1) (-1) 0 0 hdn) (Ent.refl _) ?_)
 rintro v m ⟨rfl, rfl⟩
 refine aJ (L.nil (At.then (At.seq (At.region (L.mv Z Z ?_)))))
 refine L.op Z (ah Z Z Z hE (jq c) (Ent.refl _) ?_)
 rintro v m ⟨rfl, rfl⟩
 refine aL (L.as Z Z (L.nil (At.then (At.ret (aA (bC h f e j d p U J' σ'.rested) Z Z ⟨c, U, J', σ', rfl, hQ', rfl⟩ ?_)))))
 show Ent _ (aW h d f :: cD f e j :: ap e p U :: au j d J' :: ak d σ'.rested :: fr)
 exact al
theorem xl {p : EA} (hQ : FK.Quiet σ)
 (hC : Does Tryz.prog Good 59 [aO f, aY n].toArray (cd f e j d p S J σ) fun v m => ∃ c U J' σ', v = ef c ∧ σ'.down = false ∧ Q c U J' σ' ∧ m = cd f e j d p U J' σ') : Does Tryz.prog Good 25 [aO h, .int .i64 7, aY n, eg].toArray (bC h f e j d p S J σ) fun v m => ∃ c U J' σ', v = .int .i64 c ∧ Q c U J' σ' ∧ m = bC h f e j d p U J' σ'.rested := by
 refine Does.body Tryz.func25 Z Z fun E fr hE => ?_
 refine bF (At.seq (At.region (L.op Z (cb Z Z fun b7 => (L.as Z Z (L.nil (At.then (At.seq (At.seq (At.region (L.mv Z Z (aR Z Z (aI 1 Z Z Z (bd Z Z Z Z (L.pure Z (cX Z Z Z) (L.nil (At.then (aj Z (At.skip (At.then ?_))))))))))))))))))))
 refine At.seq (At.region (L.mv Z Z (L.val Z (ao (vs := bw (-1) (-1) 0 0) Z Z Z Z) (aw Z) ?_)))
 refine L.op Z (ah Z Z Z hE (df (-1) (-1) 0 0) (aP (.tail .head) (.tail (.tail (.tail (.tail .head))))) ?_)
 rintro v m ⟨rfl, rfl⟩
 refine aJ ?_
 rw [jb hQ]
 refine At.ent (l' := cD f e j :: ap e p S :: au j d J :: ak d σ :: aW h d f :: blk b7 41 (bw (-1) (-1) 0 0).toArray :: fr) (by show Ent (_ :: _ :: blk b7 41 (bw (-1) (-1) 0 0).toArray :: _) _; exact al) ?_
 refine L.nil (At.then (At.seq (At.region (L.as Z Z (L.nil (At.then (At.seq (At.seq (At.region (L.mv Z Z (L.nil (At.then (At.block (At.seq (At.region (L.pure Z (aH Z Z Z) (L.as Z Z (L.nil (At.then ?_)))))))))))))))))))
 refine aj Z (At.seq (At.region (L.pure Z (aH Z Z Z) (L.as Z Z (L.nil (At.then (aj Z (At.seq (At.region (L.pure Z (aH Z Z Z) (L.as Z Z (L.nil (At.then (aj Z (At.seq (At.region (L.pure Z (aH Z Z Z) (L.as Z Z (L.nil ?_)))))))))))))))))))
 refine At.then (aj Z (At.seq (At.region (L.pure Z (aH Z Z Z) (L.as Z Z (L.nil (At.then (aQ Z (At.region (L.mv Z Z (aR Z Z (aI 1 Z Z Z (bd Z Z Z Z (L.mv Z Z ?_))))))))))))))
 refine L.op Z (ah Z Z Z hE hC (Ent.refl _) ?_)
 rintro v m ⟨c, U, J', σ', rfl, hdn, hQ', rfl⟩
 refine cB (L.as Z Z (L.nil (an (At.then (At.seq ?_)))))
 refine At.ent (l' := aW h d f :: ak d σ' :: cD f e j :: ap e p U :: au j d J' :: blk b7 41 (bw (-1) (-1) 0 0).toArray :: fr) al ?_
 refine At.region (L.mv Z Z (L.val Z (ao (vs := bw (-1) (-1) 0 0) Z Z Z Z) (aw Z) ?_))
 refine L.op Z (ah Z Z Z hE (dA (-1) (-1) 0 0 hdn) (Ent.refl _) ?_)
 rintro v m ⟨rfl, rfl⟩
 refine aJ (L.nil (At.then (At.seq (At.region (L.mv Z Z ?_)))))
 refine L.op Z (ah Z Z Z hE (jq c) (Ent.refl _) ?_)
 rintro v m ⟨rfl, rfl⟩
 refine aL (L.as Z Z (L.nil (At.then (At.ret (aA (bC h f e j d p U J' σ'.rested) Z Z ⟨c, U, J', σ', rfl, hQ', rfl⟩ ?_)))))
 show Ent _ (aW h d f :: cD f e j :: ap e p U :: au j d J' :: ak d σ'.rested :: fr)
 exact al
theorem CallPost.well {p : EA} {op : Nat} {Q : FK.En → Prop} (hQ : FK.Quiet σ) (hb : J.broken = 0) {v : Value} {m : List HP} (h : CallPost f e j d p S J σ op n Q v m) : ∃ (c : Int) (U : FK.En) (J' : FK.Jn) (σ' : FK.Dsk), v = ef c ∧ σ'.down = false ∧ (c = 0 ∧ Q U ∧ J' = J ∧ σ'.rested = cH σ J op n) ∧ m = cd f e j d p U J' σ' := by
 unfold CallPost at h
 rw [hQ.add hb] at h
 obtain ⟨rfl, U, h1, _, rfl⟩ := h
 exact ⟨0, U, J, (cH σ J op n).spent, rfl, (show (cH σ J op n).spent.down = false from hQ.down), ⟨rfl, h1 Z, rfl, qv (hQ.logs _ _)⟩, rfl⟩
theorem io {t : Nat} {p : EA} (hS : FK.Ok S) (hn : t < 18446744073709551616) (hJ : J.n < 1000000) (hb : J.broken = 0) (hr : Roomy σ) (hQ : FK.Quiet σ) (ht : (S.CI.find? (·.1 == t)).map (·.2) = some P) (hends : S.ends < 9223372036854775807) : Does Tryz.prog Good 25 [aO h, .int .i64 4, aY t, eg].toArray (bC h f e j d p S J σ) fun v m => v = .int .i64 0 ∧ m = bC h f e j d p (S.complete t) J (cH σ J 4 t) := by
 refine (pL (Q := fun c U J' σ' => c = 0 ∧ U = S.complete t ∧ J' = J ∧ σ'.rested = cH σ J 4 t) hQ ((mZ hS hn hJ hr ht hends).mono fun v m hv => ⟨m, hv.well hQ hb, Ent.refl _⟩)).mono ?_
 rintro v m ⟨c, U, J', σ', rfl, ⟨rfl, rfl, rfl, h4⟩, rfl⟩
 refine ⟨_, ⟨rfl, rfl⟩, ?_⟩
 rw [h4]
 exact Ent.refl _
theorem oB {t : Nat} {p : EA} (hS : FK.Ok S) (hn : t < 18446744073709551616) (hJ : J.n < 1000000) (hb : J.broken = 0) (hr : Roomy σ) (hQ : FK.Quiet σ) (ht : (S.CI.find? (·.1 == t)).map (·.2) = some P) (hsets : S.sets + 1 < 9223372036854775807) (hends : S.ends < 9223372036854775807) : Does Tryz.prog Good 25 [aO h, .int .i64 5, aY t, eg].toArray (bC h f e j d p S J σ) fun v m => v = .int .i64 0 ∧ m = bC h f e j d p (S.fail t) J (cH σ J 5 t) := by
 refine (pK (Q := fun c U J' σ' => c = 0 ∧ U = S.fail t ∧ J' = J ∧ σ'.rested = cH σ J 5 t) hQ ((s7 hS hn hJ hr ht hsets hends).mono fun v m hv => ⟨m, hv.well hQ hb, Ent.refl _⟩)).mono ?_
 rintro v m ⟨c, U, J', σ', rfl, ⟨rfl, rfl, rfl, h4⟩, rfl⟩
 refine ⟨_, ⟨rfl, rfl⟩, ?_⟩
 rw [h4]
 exact Ent.refl _
theorem oA {p : EA} (hS : FK.Ok S) (hn : n < 18446744073709551616) (hJ : J.n < 1000000) (hb : J.broken = 0) (hr : Roomy σ) (hQ : FK.Quiet σ) (hsets : S.sets ≤ 4611686018427387904) (hends : S.ends ≤ 4611686018427387904) : Does Tryz.prog Good 25 [aO h, .int .i64 7, aY n, eg].toArray (bC h f e j d p S J σ) fun v m => v = .int .i64 0 ∧ ∃ U, FK.Ticks (S.later n) S U ∧ m = bC h f e j d p U J (cH σ J 7 n) := by
 refine (xl (Q := fun c U J' σ' => c = 0 ∧ FK.Ticks (S.later n) S U ∧ J' = J ∧ σ'.rested = cH σ J 7 n) hQ ((uM hS hn hJ hr hsets hends).mono fun v m hv => ⟨m, hv.well hQ hb, Ent.refl _⟩)).mono ?_
 rintro v m ⟨c, U, J', σ', rfl, ⟨rfl, h2, rfl, h4⟩, rfl⟩
 refine ⟨_, ⟨rfl, U, h2, rfl⟩, ?_⟩
 rw [h4]
 exact Ent.refl _
theorem jy {p : EA} {id : Nat} (hS : FK.Ok S) (hR : S.getR id = some R) : Does Tryz.prog Good 26 [aO h, aY id].toArray (bC h f e j d p S J σ) fun v m => ∃ A2 c2 A3 c3, v = .tuple #[.agg (bG id R.state (.slice A2 R.CF.length c2) (.slice A3 R.CF.length c3)).toArray, .int .i64 0] ∧ m = aF (.slice A2 R.CF.length c2) (R.CF.map (·.state)) :: aF (.slice A3 R.CF.length c3) (R.CF.map (·.CE)) :: bC h f e j d p S J σ := by
 refine Does.body Tryz.func26 Z Z fun E fr hE => ?_
 refine bF (At.seq (At.region (L.op Z (aN (z := .agg #[.int .u64 0, .int .i64 0, .slice none 0 0, .slice none 0 0]) Z Z fun b4 => (L.as Z Z (L.nil (At.then (At.seq (At.seq (At.region (L.mv Z Z (aR Z Z (aI 1 Z Z Z (bd Z Z Z Z (L.pure Z (cX Z Z Z) (L.nil (At.then (aj Z (At.skip (At.then ?_))))))))))))))))))))
 refine At.seq ?_
 refine At.ent (l' := cD f e j :: ap e p S :: au j d J :: ak d σ :: aW h d f :: blk b4 62 (bG 0 0 (.slice none 0 0) (.slice none 0 0)).toArray :: fr) (by show Ent (blk b4 62 (bG 0 0 (.slice none 0 0) (.slice none 0 0)).toArray :: _) _; exact al) ?_
 refine At.region (L.mv Z Z (aR Z Z (aI 1 Z Z Z (bd Z Z Z Z (L.mv Z Z ?_)))))
 refine L.op Z (ah Z Z Z hE (qX hS hR) (Ent.refl _) ?_)
 rintro v m ⟨A2, c2, A3, c3, rfl, rfl⟩
 refine nn (L.mv Z Z (L.ex Z Z Z (L.ex Z Z Z (L.op Z (aN (z := .agg #[.int .u64 0, .int .i64 0, .slice none 0 0, .slice none 0 0]) Z Z fun b6 => ?_)))))
 refine L.op Z (aK Z (m := 4) (vs := bG id R.state (.slice A2 R.CF.length c2) (.slice A3 R.CF.length c3)) Z Z Z Z (by simp [Value.oneCell']) (by show 0 + 4 ≤ 4; omega) ?_)
 refine aD b6 (bG id R.state (.slice A2 R.CF.length c2) (.slice A3 R.CF.length c3)).toArray Z (L.as Z Z (L.nil (At.then (At.seq (Dr.start Z (dL 0 Z Z (ao (vs := bG id R.state (.slice A2 R.CF.length c2) (.slice A3 R.CF.length c3)) Z Z Z Z) (aw Z) (dP 1 Z Z (ae Z) ?_)))))))
 refine dR 2 Z Z (ah Z Z Z hE f6 (Ent.refl _) ?_)
 rintro v m ⟨rfl, rfl⟩
 refine aL (dK [true] (Kept.cons (aw Z) Kept.nil) ?_)
 refine dR 3 Z Z (aK Z (m := 4) (vs := bG id R.state (.slice A2 R.CF.length c2) (.slice A3 R.CF.length c3)) Z Z Z Z (by simp [Value.oneCell']) (by show 0 + 4 ≤ 4; omega) ?_)
 refine dK [false] Kept.nil (dP 4 Z Z (ax Z) (dE (At.then (At.ret (aD b4 (bG id R.state (.slice A2 R.CF.length c2) (.slice A3 R.CF.length c3)).toArray Z ?_)))))
 refine fe (aF (.slice A2 R.CF.length c2) (R.CF.map (·.state)) :: aF (.slice A3 R.CF.length c3) (R.CF.map (·.CE)) :: bC h f e j d p S J σ) Z (bZ (vs := bG id R.state (.slice A2 R.CF.length c2) (.slice A3 R.CF.length c3)) Z Z Z Z (aw Z)) (Res.tmp Z) ⟨A2, c2, A3, c3, rfl, rfl⟩ ?_
 show Ent _ (aF _ _ :: aF _ _ :: aW h d f :: cD f e j :: ap e p S :: au j d J :: ak d σ :: fr)
 exact al
end
end Go.Proofs.YtmeegfamopaljaaGreatDoor

namespace Go.SL
open Go Go.RowKit
section
variable {P : Program} {G : Env → Prop}
theorem DoesD.plain {f : FuncId} {fn : Func} {c : Code} {args : List Value} {u : FrameMode} {pre : List HP} {R : List HP → Prop} (hf : P.funcs[f]? = some fn) (hb : fn.body = some c) (hn : Nat.ble args.length fn.ntmps = true)
 (h : ∀ E fr, G E → At E fn.ntmps [] (eb 0 args) (pre ++ fr) (c.wp P (kF P fn E fr fun v m => v = .tuple #[] ∧ R m))) : DoesD P G f args.toArray u u pre R := by
 intro E w fr hE hw
 refine callsD_of_wpS hf hb fun c₀ cs hc => ?_
 have hfit : Fits fn.ntmps [] (eb 0 args) { tmps := args.toArray ++ Array.replicate (fn.ntmps - args.toArray.size) undef, defers := [] } := by
  refine ⟨?_, rfl, ?_⟩
  · have := Nat.le_of_ble_eq_true hn
    simp; omega
  · intro i v hi
    obtain ⟨_, h2⟩ := d8 args 0 i v hi
    rw [Nat.sub_zero] at h2
    have hlt : i < args.length := (List.getElem?_eq_some_iff.1 h2).1
    simp [Array.getElem?_append, hlt, (List.getElem?_eq_some_iff.1 h2).2]
 have hk := h E fr hE _ w hfit hw
 refine wpS_of_wp (Code.wp_mono ?_ hk)
 intro e a w' hq
 cases e with
 | normal => exact let ⟨h1, v, h2, v', m, h3, ⟨h4, h5⟩, h6⟩ := hq; ⟨h1, u, by cases c₀; simp_all, v, h2, by rw [h3, h4], rfl, m, h5, h6⟩
 | ret => exact let ⟨h1, v, h2, v', m, h3, ⟨h4, h5⟩, h6⟩ := hq; ⟨h1, u, by cases c₀; simp_all, v, h2, by rw [h3, h4], rfl, m, h5, h6⟩
 | panic c => exact let ⟨_, v', m, h3, _⟩ := hq; by cases h3
 | exit _ => exact hq.elim
 | goto _ => exact hq.elim
 | outgrown => exact let ⟨v', m, h3, _⟩ := hq; by cases h3
end
end Go.SL

namespace Go.Proofs
open Go.Shelf
open Go.RowKit in
open Go.RowKit in
def ml : Go.Shelf.Ren := ⟨fun | 192 => 333 | 190 => 336 | 125 => 247 | 258 => 337 | 128 => 274 | 129 => 227 | 302 => 338 | 303 => 339 | 304 => 340 | 305 => 341 | 306 => 342 | 307 => 343 | 308 => 344 | 309 => 345 | 310 => 346 | 333 => 347 | 329 => 294 | 330 => 295 | 334 => 348 | 335 => 349 | 336 => 350 | 344 => 351 | n => n, fun | 31 => 278 | 0 => 0 | 9 => 9 | 3 => 3 | 46 => 87 | 51 => 312 | 53 => 51 | 4 => 4 | 183 => 395 | 182 => 394 | 131 => 357 | 5 => 5 | 218 => 417 | 222 => 219 | 228 => 428 | 229 => 200 | n => n, fun | n => n⟩
theorem lI : Go.Proofs.Lays.n192 Tryz.prog ml := {
 mixed := by kernel_rfl
 f125 := Tryz.func247.trans (congrArg some (by kernel_rfl))
 f128 := Tryz.func274.trans (congrArg some (by kernel_rfl))
 f129 := Tryz.func227.trans (congrArg some (by kernel_rfl))
 f190 := Tryz.func336.trans (congrArg some (by kernel_rfl))
 f192 := Tryz.func333.trans (congrArg some (by kernel_rfl))
 f258 := Tryz.func337.trans (congrArg some (by kernel_rfl))
 f302 := Tryz.func338.trans (congrArg some (by kernel_rfl))
 f303 := Tryz.func339.trans (congrArg some (by kernel_rfl))
 f304 := Tryz.func340.trans (congrArg some (by kernel_rfl))
 f305 := Tryz.func341.trans (congrArg some (by kernel_rfl))
 f306 := Tryz.func342.trans (congrArg some (by kernel_rfl))
 f307 := Tryz.func343.trans (congrArg some (by kernel_rfl))
 f308 := Tryz.func344.trans (congrArg some (by kernel_rfl))
 f309 := Tryz.func345.trans (congrArg some (by kernel_rfl))
 f310 := Tryz.func346.trans (congrArg some (by kernel_rfl))
 f329 := Tryz.func294.trans (congrArg some (by kernel_rfl))
 f330 := Tryz.func295.trans (congrArg some (by kernel_rfl))
 f333 := Tryz.func347.trans (congrArg some (by kernel_rfl))
 f334 := Tryz.func348.trans (congrArg some (by kernel_rfl))
 f335 := Tryz.func349.trans (congrArg some (by kernel_rfl))
 f336 := Tryz.func350.trans (congrArg some (by kernel_rfl))
 f344 := Tryz.func351.trans (congrArg some (by kernel_rfl))
 t0 := Tryz.underlying0
 a0 := Tryz.isAgg0
 z0 := Tryz.sizeOf0
 v0 := Tryz.zeroValue0
 t3 := Tryz.underlying3
 a3 := Tryz.isAgg3
 z3 := Tryz.sizeOf3
 v3 := Tryz.zeroValue3
 t4 := Tryz.underlying4
 a4 := Tryz.isAgg4
 z4 := Tryz.sizeOf4
 v4 := Tryz.zeroValue4
 t5 := Tryz.underlying5
 a5 := Tryz.isAgg5
 z5 := Tryz.sizeOf5
 v5 := Tryz.zeroValue5
 t9 := Tryz.underlying9
 a9 := Tryz.isAgg9
 z9 := Tryz.sizeOf9
 v9 := Tryz.zeroValue9
 t31 := Tryz.underlying278
 a31 := Tryz.isAgg278
 z31 := Tryz.sizeOf278
 v31 := Tryz.zeroValue278
 t46 := Tryz.underlying87
 a46 := Tryz.isAgg87
 z46 := Tryz.sizeOf87
 v46 := Tryz.zeroValue87
 t51 := Tryz.underlying312
 a51 := Tryz.isAgg312
 z51 := Tryz.sizeOf312
 v51 := Tryz.zeroValue312
 t53 := Tryz.underlying51
 a53 := Tryz.isAgg51
 z53 := Tryz.sizeOf51
 v53 := Tryz.zeroValue51
 t131 := Tryz.underlying357
 a131 := Tryz.isAgg357
 z131 := Tryz.sizeOf357
 v131 := Tryz.zeroValue357
 t182 := Tryz.underlying394
 a182 := Tryz.isAgg394
 z182 := Tryz.sizeOf394
 v182 := Tryz.zeroValue394
 t183 := Tryz.underlying395
 a183 := Tryz.isAgg395
 z183 := Tryz.sizeOf395
 v183 := Tryz.zeroValue395
 t218 := Tryz.underlying417
 a218 := Tryz.isAgg417
 z218 := Tryz.sizeOf417
 v218 := Tryz.zeroValue417
 t222 := Tryz.underlying219
 a222 := Tryz.isAgg219
 z222 := Tryz.sizeOf219
 v222 := Tryz.zeroValue219
 t228 := Tryz.underlying428
 a228 := Tryz.isAgg428
 z228 := Tryz.sizeOf428
 v228 := Tryz.zeroValue428
 t229 := Tryz.underlying200
 a229 := Tryz.isAgg200
 z229 := Tryz.sizeOf200
 v229 := Tryz.zeroValue200 }
open Go.Sort Go.RowKit in
theorem lP (blk off cap : Nat) (ss : List (List UInt8)) (w : World) (hH : Holds encStr w blk off ss.toArray) (hblk : blk < w.heap.size) (hsz : ss.length < 4611686018427387904) :
 Calls Tryz.prog 333 #[.slice (some ⟨blk, off, none⟩) ss.length cap] w fun e w' =>
  e = .returned (.tuple #[]) ∧ ∃ n os, w' = grow (putRow encStr (Sort.ahead w n) blk off (ss.mergeSort fun x y => decide (x ≤ y)).toArray) os := Any.sort_Strings lI blk off cap ss w hH hblk hsz
open Go.RowKit Go.Lib in
open Go.RowKit Go.Lib in
def mm : Go.Shelf.Ren := ⟨fun | 101 => 170 | 208 => 214 | 206 => 242 | n => n, fun | 9 => 9 | 4 => 4 | 3 => 3 | n => n, fun | n => n⟩
theorem rf : Go.Proofs.Lays.n101 Tryz.prog mm := {
 mixed := by kernel_rfl
 f101 := Tryz.func170.trans (congrArg some (by kernel_rfl))
 f206 := Tryz.func242.trans (congrArg some (by kernel_rfl))
 f208 := Tryz.func214.trans (congrArg some (by kernel_rfl))
 t3 := Tryz.underlying3
 a3 := Tryz.isAgg3
 z3 := Tryz.sizeOf3
 v3 := Tryz.zeroValue3
 t4 := Tryz.underlying4
 a4 := Tryz.isAgg4
 z4 := Tryz.sizeOf4
 v4 := Tryz.zeroValue4
 t9 := Tryz.underlying9
 a9 := Tryz.isAgg9
 z9 := Tryz.sizeOf9
 v9 := Tryz.zeroValue9 }
open Go.RowKit Go.Lib in
theorem ja (s p : ByteArray) (w : World) :
 Calls Tryz.prog 170 #[.string s, .string p] w fun e w' => e = .returned (.string ⟨(Lib.trimPrefix s.data.toList p.data.toList).toArray⟩) ∧ w' = w := Any.strings_TrimPrefix rf s p w
open Go.RowKit Go.Sort in
open Go.RowKit Go.Sort in
theorem fK (p : Option Addr) (cap : Nat) (w : World) :
 Calls Tryz.prog 333 #[.slice p 0 cap] w fun e w' => e = .returned (.tuple #[]) ∧ w' = w := Any.sort_Strings_none lI p cap w
end Go.Proofs

set_option maxRecDepth 10000
namespace Go.Proofs.YtmeegfamopaljaaGreatDoor
open Go Go.RowKit Go.SL
variable {G : Env → Prop}
theorem oT {d : Nat} {σ : FK.Dsk} {name : ByteArray} (hd : σ.down = false) (hn : FK.dO σ.now name = none) : Does Tryz.prog G 328 [aO d, bH name].toArray [ak d σ] fun v m => v = .tuple #[.slice none 0 0, ef 9] ∧ m = [ak d σ] := by
 obtain ⟨dur, now, pend, left, full, down⟩ := σ
 simp only at hd hn
 subst hd
 refine Does.body Tryz.func328 Z Z fun E fr hE => ?_
 refine ai ?_
 refine At.ex .head fun q => bq ?_
 refine At.ent (l' := kD d q ⟨dur, now, pend, left, full, false⟩ fr) (Ent.refl _) ?_
 refine At.ex (.tail (.tail .head)) fun M => bq ?_
 refine At.ent (l' := HP.pure (Names q.P M now) :: bP bH q.mn (cQ M) :: blk d 131 (ff q ⟨dur, now, pend, left, full, false⟩) :: aX q.md q.P dur :: dt q.P :: row 211 3 q.pv pend.length (fx pend) :: fr) (Ent.refl _) ?_
 refine At.pure .head fun hN => ?_
 have hM : FK.dO M name = none := by
  rcases hN.get name with h | ⟨b, s, _, h, _⟩
  · exact h.1
  · rw [h] at hn; cases hn
 refine At.seq (At.region (L.as Z Z (L.as Z Z (L.nil (At.then (At.seq (At.seq (At.region (L.mv Z Z (aR Z Z (aI 5 Z Z Z (bd Z Z Z Z (L.nil (At.then (aj Z (At.skip (At.then (At.seq (At.region ?_)))))))))))))))))))
 refine L.mv Z Z (aR Z Z (aI 1 Z Z Z (bd Z Z Z Z (L.mv Z Z (L.val Z (km (m := cQ M) (a := name) Z hK Z Z Z (by rw [iO, hM]; rfl)) (fB .head) (L.mv Z Z (L.ex Z Z Z (L.ex Z Z Z (L.as Z Z (L.as Z Z (L.nil (At.then (At.seq (At.seq (At.region (L.mv Z Z (L.pure Z (cg Z Z) (L.nil (At.then ?_)))))))))))))))))))
 refine aQ Z (At.seq (At.region (L.pure Z (cO Z Z Z) (L.as Z Z (L.as Z Z (L.nil (At.then (At.ret (aG (cU [ak d ⟨dur, now, pend, left, full, false⟩] rfl Z Z ⟨rfl, rfl⟩ ?_))))))))))
 refine Ent.trans ?_ (bL q ⟨dur, now, pend, left, full, false⟩)
 refine Ent.trans (bV hN) ?_
 show Ent _ (_ :: aX q.md q.P dur :: aX q.mn q.P now :: dt q.P :: _ :: fr)
 exact al
theorem oM {d : Nat} {σ : FK.Dsk} (hd : σ.down = false) (hn : σ.now = []) : Does Tryz.prog G 327 [aO d].toArray [ak d σ] fun v m => v = .tuple #[.slice none 0 0, .nilIface] ∧ m = [ak d σ] := by
 obtain ⟨dur, now, pend, left, full, down⟩ := σ
 simp only at hd hn
 subst hd; subst hn
 refine Does.body Tryz.func327 Z Z fun E fr hE => ?_
 refine ai ?_
 refine At.ex .head fun q => bq ?_
 refine At.ent (l' := kD d q ⟨dur, [], pend, left, full, false⟩ fr) (Ent.refl _) ?_
 refine At.ex (.tail (.tail .head)) fun M => bq ?_
 refine At.ent (l' := HP.pure (Names q.P M []) :: bP bH q.mn (cQ M) :: blk d 131 (ff q ⟨dur, [], pend, left, full, false⟩) :: aX q.md q.P dur :: dt q.P :: row 211 3 q.pv pend.length (fx pend) :: fr) (Ent.refl _) ?_
 refine At.pure .head fun hN => ?_
 have hM : M = [] := by cases hN; rfl
 subst hM
 refine At.seq (At.region (L.as Z Z (L.as Z Z (L.nil (At.then (At.seq (At.seq (At.region (L.mv Z Z (aR Z Z (aI 5 Z Z Z (bd Z Z Z Z (L.nil (At.then (aj Z (At.skip (At.then (At.seq (At.region ?_)))))))))))))))))))
 refine L.as Z Z (L.nil (At.then (At.seq (At.seq (At.region (L.mv Z Z (aR Z Z (aI 1 Z Z Z (bd Z Z Z Z (L.op Z (m8 (b := q.mn) (m := cQ []) Z Z Z .head fun it => (L.nil (At.then (At.block ?_))))))))))))))
 refine bk (X := Nat) (fun _ => [(15, .pointer (some ⟨it, 0, none⟩)), (4, .slice none 0 0), (0, aO d)]) (fun _ => cR bH it q.mn (cQ []) (cQ []) none :: blk d 131 (ff q ⟨dur, [], pend, left, full, false⟩) :: aX q.md q.P dur :: dt q.P :: row 211 3 q.pv pend.length (fx pend) :: fr) (fun _ => True) (fun _ => 0) 0 trivial ⟨rfl, rfl, rfl, trivial⟩ (Ent.refl _) ?_
 intro k hk
 refine At.seq (At.region ?_)
 refine L.op Z (kH Z Z .head (fun _ => ?_) (fun j q hj => by simp at hj))
 refine L.ex Z Z Z (L.nil (At.then (At.seq (aj Z (At.exit (az (ay (ar (At.then (At.seq (At.region (L.mv Z Z ?_))))))))))))
 refine L.op Z (fE Z Z Z hE (eJ (φ := fun _ => True) fun _ w _ _ _ => (fK none 0 w).mono fun _ _ ⟨h1, h2⟩ => ⟨h1, by rw [h2]; exact Below.refl _ _⟩) (fun _ _ => trivial) ?_)
 rintro v m ⟨rfl, rfl⟩
 refine aL (L.nil (At.then (At.seq (At.region (L.mv Z Z (L.as Z Z (L.as Z Z (L.nil (At.then (At.ret (cU [ak d ⟨dur, [], pend, left, full, false⟩] rfl Z Z ⟨rfl, rfl⟩ ?_)))))))))))
 refine Ent.trans ?_ (bL q ⟨dur, [], pend, left, full, false⟩)
 refine Ent.trans (Ent.ranged.trans (bV hN)) ?_
 show Ent _ (_ :: aX q.md q.P dur :: aX q.mn q.P [] :: dt q.P :: _ :: fr)
 exact al
end Go.Proofs.YtmeegfamopaljaaGreatDoor

set_option maxHeartbeats 2000000
set_option maxRecDepth 10000
namespace FK
def e0 : Dsk := ⟨[], [], [], -1, -1, false⟩
def e1 : Dsk := ⟨[], [], [], -2, -2, false⟩
def e2 : Dsk := ⟨[], [], [], -3, -3, false⟩
theorem Bl : e0.sync = (e1, 0) := by
 have h1 : Go.IntKind.i64.wrap (-2) = -2 := by decide
 simp [e0, e1, Dsk.sync, Dsk.writes, h1]
theorem Bk : e1.sync = (e2, 0) := by
 have h1 : Go.IntKind.i64.wrap (-3) = -3 := by decide
 simp [e1, e2, Dsk.sync, Dsk.writes, h1]
def J0 : Jn := ⟨0, false, 0⟩
theorem nX : Quiet e0 := ⟨rfl, rfl, rfl, rfl⟩
end FK
namespace Go.Proofs.YtmeegfamopaljaaGreatDoor
open Go Go.RowKit Go.SL
variable {G : Env → Prop}
abbrev mV (d : Nat) : Value := .iface 115 (aO d)
theorem B1 {d : Nat} : Does Tryz.prog G 330 [aO d].toArray [ak d FK.e0] fun v m => v = .nilIface ∧ m = [ak d FK.e1] := by
 have := iV (G := G) (d := d) (σ := FK.e0) (by decide) (by decide)
 rw [FK.Bl] at this
 exact this
theorem B0 {d : Nat} : Does Tryz.prog G 330 [aO d].toArray [ak d FK.e1] fun v m => v = .nilIface ∧ m = [ak d FK.e2] := by
 have := iV (G := G) (d := d) (σ := FK.e1) (by decide) (by decide)
 rw [FK.Bk] at this
 exact this
theorem ow (b6 b7 : Nat) : DoesD Tryz.prog G 168 [aO b7, aO b6].toArray .returning .returning [blk b7 109 #[.nilIface]] fun m => m = [blk b7 109 #[.nilIface]] := by
 refine DoesD.plain Tryz.func168 Z Z fun E fr hE => ?_
 exact ai (At.seq (At.region (bd Z Z Z Z (L.pure Z (co Z Z) (L.nil (At.then (aj Z (At.skip (bm [_] rfl ⟨rfl, rfl⟩ (Ent.refl _))))))))))
theorem sN {d : Nat} (v1 v2 : Value) : Does Tryz.prog Good 107 [mV d, v1, v2].toArray [ak d FK.e0] fun v m => ∃ j, v = .tuple #[aO j, .nilIface] ∧ m = [au j d FK.J0, ak d FK.e2] := by
 refine kV Tryz.func107 Z Z fun E fr hE => ?_
 refine ai (At.seq (At.region (L.op Z (aN (z := .pointer none) Z Z fun b6 => (L.op Z (aN (z := .nilIface) Z Z fun b7 => (L.nil (At.then (At.seq (At.region (L.mv Z Z (L.pure Z (bn (ps := [(0, .tmp 25)]) (vs := [mV d]) (cs := mr d FK.J0) Z Z Z Z Z) (L.op Z (cb Z Z fun b27 => (aD b27 (mr d FK.J0) Z ?_)))))))))))))))
 refine L.st Z Z Z Z (by first | decide | simp | (simp; omega)) ?_
 refine aD b6 #[aO b27] rfl (L.nil (At.then (At.seq (At.region ?_))))
 refine L.pure Z (eO Z Z) ?_
 refine L.op Z (qy Z (L.nil (At.then (At.seq (At.seq (At.region (L.mv Z Z ?_)))))))
 refine L.op Z (ey Z Z Z (rp ⟨d, 0, none⟩) Z hE B1 (Ent.sel (.tail (.tail (.tail .head)))) ?_)
 rintro v m ⟨rfl, rfl⟩
 refine ai ?_
 refine L.st Z Z Z Z (by first | decide | simp | (simp; omega)) ?_
 refine aD b7 #[.nilIface] rfl ?_
 refine At.ent (l' := blk b7 109 #[.nilIface] :: blk b6 169 #[aO b27] :: au b27 d FK.J0 :: ak d FK.e1 :: fr) al ?_
 refine L.nil (At.then (At.seq (At.region (bd Z Z Z Z (L.pure Z (co Z Z) (L.nil (At.then (aj Z (At.skip (At.then (At.seq (At.region (L.mv Z Z ?_)))))))))))))
 refine L.op Z (ey Z Z Z (yt ⟨d, 0, none⟩) Z hE (oM Z Z) (Ent.sel (.tail (.tail (.tail .head)))) ?_)
 rintro v m ⟨rfl, rfl⟩
 refine ai (L.mv Z Z (L.ex Z Z Z (L.ex Z Z Z (L.as Z Z ?_))))
 refine L.st Z Z Z Z (by first | decide | simp | (simp; omega)) ?_
 refine aD b7 #[.nilIface] rfl ?_
 refine At.ent (l' := blk b7 109 #[.nilIface] :: blk b6 169 #[aO b27] :: au b27 d FK.J0 :: ak d FK.e1 :: fr) al ?_
 refine L.nil (At.then (At.seq (At.seq (At.region (bd Z Z Z Z (L.pure Z (co Z Z) (L.nil (At.then (aj Z (At.skip (At.then (At.seq (At.region (L.as Z Z (L.nil (At.then (At.seq (At.seq (At.region ?_)))))))))))))))))))
 refine L.mv Z Z (L.pure Z (aM Z Z) (L.mv Z Z (L.nil (At.then (At.block ?_)))))
 refine bk (X := Nat) (fun _ => [(42, .int .i64 0), (41, .int .i64 0), (9, .slice none 0 0), (8, .slice none 0 0), (7, aO b7), (6, aO b6), (2, v2), (1, v1), (0, mV d)]) (fun _ => blk b7 109 #[.nilIface] :: blk b6 169 #[aO b27] :: au b27 d FK.J0 :: ak d FK.e1 :: fr) (fun _ => True) (fun _ => 0) 0 trivial ⟨rfl, rfl, rfl, rfl, rfl, rfl, rfl, rfl, rfl, trivial⟩ (Ent.refl _) ?_
 intro k hk
 refine At.seq (At.region (L.pure Z (bl Z Z Z) (L.nil (At.then (At.seq (aj Z (At.exit (az (ay (ar (At.then (At.seq (Dr.start Z (dP 0 Z Z (ae Z) (dL 1 Z Z (aa Z Z) (ag Z) (dP 2 Z Z (am Z) (dP 3 Z Z (ab (off := 1) Z Z) (dL 4 Z Z (aa Z Z) (ag Z) (dP 6 Z Z (qF Z) (dP 7 Z Z (ae Z) ?_))))))))))))))))))))
 refine dR 5 Z Z (ah Z Z Z hE (iY (kind := ⟨#[108, 111, 103]⟩) (n := 0) (by omega) (by decide)) (Ent.refl _) ?_)
 rintro v m ⟨rfl, rfl⟩
 refine aL (dK [false, true] (Kept.cons (ag Z) Kept.nil) ?_)
 refine dR 8 Z Z (ey Z Z Z (BD ⟨d, 0, none⟩) Z hE (oT (name := FK.bg 0) Z Z) (Ent.sel (.tail (.tail (.tail .head)))) ?_)
 rintro v m ⟨rfl, rfl⟩
 refine ai (dK [true] (Kept.cons (ag Z) Kept.nil) (dP 9 Z Z (ae Z) (dP 10 Z Z (bc Z Z) (dP 11 Z Z (bc Z Z) (dP 12 Z Z (ax Z) ?_)))))
 refine dR 13 Z Z (bB Z Z Z Z Z (by show 0 < 1; omega) ?_)
 refine aD b7 #[.iface 48 (.int .i64 9)] rfl ?_
 refine At.ent (l' := blk b7 109 #[.iface 48 (.int .i64 9)] :: blk b6 169 #[aO b27] :: au b27 d FK.J0 :: ak d FK.e1 :: fr) al ?_
 refine dK [false] Kept.nil (dE (At.then (At.seq (At.seq (At.region (bd Z Z Z Z (L.pure Z (fv Z Z) (L.mv Z Z (lA Z Z Z (aa Z Z) (ag Z) (lT Z Z Z (cO Z Z Z) ?_))))))))))
 refine L.on Z Z Z (ah Z Z Z hE (rM 9) (Ent.refl _) ?_)
 rintro v m ⟨rfl, rfl⟩
 refine aL (lT Z Z Z (cg Z Z) (L.pure Z (aq Z Z Z) (L.nil (At.then (aj Z (At.skip (At.then (At.seq (At.seq (At.region (L.mv Z Z (L.pure Z (oF Z Z Z) (L.nil (At.then (aj Z (At.skip (At.then (At.seq (At.block ?_)))))))))))))))))))
 refine bk (X := Nat) (fun _ => [(19, .slice none 0 0), (8, .slice none 0 0), (7, aO b7), (6, aO b6), (0, mV d)]) (fun _ => blk b7 109 #[.iface 48 (.int .i64 9)] :: blk b6 169 #[aO b27] :: au b27 d FK.J0 :: ak d FK.e1 :: fr) (fun _ => True) (fun _ => 0) 0 trivial ⟨rfl, rfl, rfl, rfl, rfl, trivial⟩ (Ent.refl _) ?_
 intro k hk
 refine At.seq (At.seq (At.region (L.mv Z Z (L.pure Z (aM Z Z) (L.pure Z (cG Z Z Z) (L.mv Z Z (L.off Z Z Z Z Z Z (L.off Z Z Z Z Z Z (L.off Z Z Z Z Z Z (L.off Z Z Z Z Z Z (L.off Z Z Z Z Z Z (L.pure Z (aq Z Z Z) (L.nil (At.then (aj Z (At.exit (az (ay (ar (At.then (At.seq (At.seq ?_))))))))))))))))))))))
 refine At.region (L.mv Z Z (L.pure Z (aM Z Z) (L.mv Z Z (L.nil (At.then (At.block ?_))))))
 refine bk (X := Nat) (fun _ => [(142, .int .i64 0), (141, .int .i64 0), (7, aO b7), (6, aO b6), (0, mV d)]) (fun _ => blk b7 109 #[.iface 48 (.int .i64 9)] :: blk b6 169 #[aO b27] :: au b27 d FK.J0 :: ak d FK.e1 :: fr) (fun _ => True) (fun _ => 0) 0 trivial ⟨rfl, rfl, rfl, rfl, rfl, trivial⟩ (Ent.refl _) ?_
 intro k hk
 refine At.seq (At.region (L.pure Z (bl Z Z Z) (L.nil (At.then (At.seq (aj Z (At.exit (az (ay (ar (At.then (At.seq (At.region (L.mv Z Z ?_))))))))))))))
 refine L.op Z (ey Z Z Z (rp ⟨d, 0, none⟩) Z hE B0 (Ent.sel (.tail (.tail (.tail .head)))) ?_)
 rintro v m ⟨rfl, rfl⟩
 refine ai ?_
 refine L.st Z Z Z Z (by first | decide | simp | (simp; omega)) ?_
 refine aD b7 #[.nilIface] rfl (L.nil (At.then (At.ret ?_)))
 refine At.leave (.inl Z) Z Z hE (ow b6 b7) (Ent.refl _) ?_
 rintro m rfl
 refine ai (fe [au b27 d FK.J0, ak d FK.e2] rfl (eR Z Z (ag Z)) (eR Z Z (ag Z)) ⟨b27, rfl, rfl⟩ ?_)
 show Ent _ (au b27 d FK.J0 :: ak d FK.e2 :: fr)
 exact al
theorem po {j d : Nat} {J : FK.Jn} : Does Tryz.prog G 111 [aO j].toArray [au j d J] fun v m => v = .bool J.torn ∧ m = [au j d J] := by
 refine Does.body Tryz.func111 Z Z fun E fr hE => ?_
 exact ai (At.seq (At.region (L.as Z Z (L.nil (At.then (At.seq (At.region (L.mv Z Z (aR Z Z (aI 2 Z Z Z (bd Z Z Z Z (L.as Z Z (L.nil (At.then (At.ret (aA [_] rfl Z ⟨rfl, rfl⟩ (Ent.refl _)))))))))))))))))
theorem s4 {d : Nat} : Does Tryz.prog Good 63 [mV d].toArray [ak d FK.e0] fun v m => ∃ f e j p, v = .tuple #[aO f, .nilIface] ∧ m = cd f e j d p FK.En.fresh FK.J0 FK.e2 := by
 refine Does.body Tryz.func63 Z Z fun E fr hE => ?_
 refine ai (At.seq (At.region (L.as Z Z (L.as Z Z (L.nil (At.then (At.seq (At.region ?_))))))))
 refine L.op Z (ah Z Z Z hE vE (Ent.refl _) ?_)
 rintro v m ⟨e, p, rfl, rfl⟩
 refine ai (L.pure Z (bn (ps := [(0, .tmp 8)]) (vs := [aO e]) (cs := #[aO e, .pointer none]) Z Z Z Z Z) (L.op Z (cb Z Z fun b10 => (L.op Z (aN (z := .pointer none) Z Z fun b4 => ?_)))))
 refine L.st Z Z Z Z (by first | decide | simp | (simp; omega)) ?_
 refine aD b4 #[aO b10] rfl (L.nil (At.then (At.seq (At.region (L.mv Z Z ?_)))))
 refine L.pure Z (eO Z Z) ?_
 refine bd Z Z Z Z ?_
 refine L.pure Z (eO Z Z) ?_
 refine L.op Z (ah Z Z Z hE (sN _ _) (Ent.sel (.tail (.tail (.tail .head)))) ?_)
 rintro v m ⟨j, rfl, rfl⟩
 refine aJ (L.mv Z Z (L.ex Z Z Z (L.ex Z Z Z (L.as Z Z (L.as Z Z (L.nil (At.then (At.seq (At.seq (At.region (L.mv Z Z (L.pure Z (co Z Z) (L.nil (At.then (aj Z (At.skip (At.then (At.seq (At.region ?_)))))))))))))))))))
 refine bd Z Z Z Z (L.mv Z Z (aR Z Z (aI 1 Z Z Z (L.st Z Z Z Z (by show 1 < 2; decide) ?_))))
 refine aD b10 #[aO e, aO j] rfl (L.nil (At.then (At.seq (At.seq (At.region (L.mv Z Z ?_))))))
 refine L.op Z (ah Z Z Z hE po (Ent.sel (.tail .head)) ?_)
 rintro v m ⟨rfl, rfl⟩
 refine ai (L.nil (At.then (aj Z (At.skip (At.then (At.seq (At.region (bd Z Z Z Z (L.as Z Z (L.as Z Z (L.nil (At.then (At.ret (cU (cd b10 e j d p FK.En.fresh FK.J0 FK.e2) Z Z Z ⟨b10, e, j, p, rfl, rfl⟩ ?_))))))))))))))
 show Ent _ (cD b10 e j :: ap e p FK.En.fresh :: au j d FK.J0 :: ak d FK.e2 :: fr)
 exact al
theorem sS {h d : Nat} : Does Tryz.prog Good 28 [aO h, eg].toArray [eW h d none, ak d FK.e0] fun v m => v = .int .i64 0 ∧ ∃ f e j p, m = bC h f e j d p FK.En.fresh FK.J0 FK.e0 := by
 refine Does.body Tryz.func28 Z Z fun E fr hE => ?_
 refine aJ (At.seq (At.region (L.op Z (cb Z Z fun b3 => (L.as Z Z (L.nil (At.then (At.seq (At.region (L.mv Z Z (L.val Z (ao (vs := bw (-1) (-1) 0 0) Z Z Z Z) (aw Z) ?_)))))))))))
 refine L.op Z (ah Z Z Z hE (df (-1) (-1) 0 0) (aP (.tail .head) (.tail .head)) ?_)
 rintro v m ⟨rfl, rfl⟩
 refine aJ ?_
 rw [jb FK.nX]
 refine At.ent (l' := eW h d none :: ak d FK.e0 :: blk b3 41 (bw (-1) (-1) 0 0).toArray :: fr) (by show Ent (_ :: _ :: blk b3 41 (bw (-1) (-1) 0 0).toArray :: _) _; exact al) ?_
 refine L.nil (At.then (At.seq (At.region (L.mv Z Z (aR Z Z (aI 0 Z Z Z (bd Z Z Z Z (L.pure Z (cO Z Z Z) ?_))))))))
 refine L.op Z (ah Z Z Z hE s4 (Ent.sel (.tail .head)) ?_)
 rintro v m ⟨f, e, j, p, rfl, rfl⟩
 refine cB (L.mv Z Z (L.ex Z Z Z (L.ex Z Z Z (L.as Z Z (L.as Z Z (L.nil (At.then (At.seq (At.region (L.mv Z Z (L.mv Z Z (aR Z Z (aI 1 Z Z Z ?_)))))))))))))
 refine L.st Z Z Z Z (by first | decide | simp | (simp; omega)) ?_
 refine aD h #[aO d, aO f] rfl (L.nil (At.then (At.seq (At.seq (At.region (L.mv Z Z (L.pure Z (co Z Z) (L.nil (At.then (aj Z (At.skip (At.then (At.seq ?_)))))))))))))
 refine At.ent (l' := aW h d f :: ak d FK.e2 :: cD f e j :: ap e p FK.En.fresh :: au j d FK.J0 :: blk b3 41 (bw (-1) (-1) 0 0).toArray :: fr) al ?_
 refine At.region (L.mv Z Z (L.val Z (ao (vs := bw (-1) (-1) 0 0) Z Z Z Z) (aw Z) ?_))
 refine L.op Z (ah Z Z Z hE (dA (σ := FK.e2) (-1) (-1) 0 0 Z) (Ent.refl _) ?_)
 rintro v m ⟨rfl, rfl⟩
 refine aJ ?_
 rw [show FK.e2.rested = FK.e0 from rfl]
 refine L.nil (At.then (At.seq (At.region (L.mv Z Z ?_))))
 refine L.op Z (ah Z Z Z hE f6 (Ent.refl _) ?_)
 rintro v m ⟨rfl, rfl⟩
 refine aL (L.as Z Z (L.nil (At.then (At.ret (aA (bC h f e j d p FK.En.fresh FK.J0 FK.e0) Z Z ⟨rfl, f, e, j, p, rfl⟩ ?_)))))
 show Ent _ (aW h d f :: cD f e j :: ap e p FK.En.fresh :: au j d FK.J0 :: ak d FK.e0 :: fr)
 exact al
end Go.Proofs.YtmeegfamopaljaaGreatDoor

namespace FK
open Go.Proofs.YtmeegfamopaljaaGreatDoor (dr)
def bI (l : List (List UInt8)) : List UInt8 := l.flatMap frame
theorem mJ (l : List (List UInt8)) (b : List UInt8) : bI (l ++ [b]) = bI l ++ frame b := by
 unfold bI
 rw [List.flatMap_append]
 simp
theorem mK (l : List (List UInt8)) (b : List UInt8) : bI (b :: l) = frame b ++ bI l := by
 unfold bI
 rw [List.flatMap_cons]
theorem xp (b : List UInt8) : 4 ≤ (frame b).length := by
 unfold frame fM
 simp only [List.length_append, List.length_cons, List.length_nil]
 omega
def cw (l : List (List UInt8)) (k : Int) : Dsk := ⟨[(bg 0, dr (bI l))], [(bg 0, dr (bI l))], [], -k, -k, false⟩
theorem Au (a b : List UInt8) : dr (a ++ b) = dr a ++ dr b := by
 unfold dr
 refine ByteArray.ext ?_
 simp
theorem rK (l : List (List UInt8)) (b : List UInt8) (k : Int) : (cw l k).logs 0 (dr (frame b)) = cw (l ++ [b]) k := by
 have h : dh [(bg 0, dr (bI l))] ⟨2, bg 0, dr (frame b)⟩ = [(bg 0, dr (bI (l ++ [b])))] := by
  rw [mJ, Au]
  have e : (bg 0 == bg 0) = true := (Go.MapKept.bytes_beq _ _).2 rfl
  simp [dh, fQ, dO, List.findIdx?_cons, e]
 unfold Dsk.logs cw
 simp only [h]
theorem Bm (b : List UInt8) : e0.logs 0 (dr (frame b)) = cw [b] 1 := by
 unfold Dsk.logs cw e0 bI
 simp [dh, fQ, dO]
theorem kc (l : List (List UInt8)) : Quiet (cw l 1) := ⟨rfl, rfl, rfl, rfl⟩
theorem xd (l : List (List UInt8)) : (cw l 1).sync = (cw l 2, 0) := by
 have h1 : Go.IntKind.i64.wrap (-2) = -2 := by decide
 simp [cw, Dsk.sync, Dsk.writes, h1]
theorem xc (l : List (List UInt8)) : (cw l 2).sync = (cw l 3, 0) := by
 have h1 : Go.IntKind.i64.wrap (-3) = -3 := by decide
 simp [cw, Dsk.sync, Dsk.writes, h1]
theorem qA (l : List (List UInt8)) (k : Int) : kW (cw l k).now = (bI l).length ∧ kW (cw l k).dur = (bI l).length := by
 have e : (dr (bI l)).size = (bI l).length := by
  show (bI l).toArray.size = _
  simp
 simp [cw, kW, e]
inductive Reds : En → List (List UInt8) → En → Prop
 | nil {S : En} : Reds S [] S
 | cons {S S' U : En} {b : List UInt8} {l : List (List UInt8)} : Fine S → b.length ≤ 1000000001 → Redo S b S' → Reds S' l U → Reds S (b :: l) U
theorem Reds.snoc {S U V : En} {b : List UInt8} {l : List (List UInt8)} (h : Reds S l U) (hf : Fine U) (hb : b.length ≤ 1000000001) (hr : Redo U b V) : Reds S (l ++ [b]) V := by
 induction h with
 | nil => exact .cons hf hb hr .nil
 | cons a1 a2 a3 _ ih => exact .cons a1 a2 a3 (ih hf hr)
end FK
namespace Go.Proofs.YtmeegfamopaljaaGreatDoor
open Go Go.RowKit Go.SL
theorem wI {f e : Nat} {jv : Value} {p : EA} {S S' : FK.En} {b : List UInt8} {pb : HP} {A : Option Addr} {c : Nat} (hF : FK.Fine S) (h : FK.Redo S b S') (hp : Reads pb A b) (hc : b.length ≤ c) :
 Does Tryz.prog Good 110 [aO f, .slice A b.length c].toArray [gx f e jv, ap e p S, pb] fun v m => v = .tuple #[] ∧ ∃ p', m = [gx f e jv, ap e p' S', pb] := by
 have a1 := hF.sets
 have a2 := hF.ends
 have a3 := hF.tok
 cases h with
 | submit hd hf hl hc' hu =>
  exact (uh hF hp hc hl hd hf).mono fun v m ⟨hv, S0, p', h0, hm⟩ => ⟨m, ⟨hv, p', by rw [hm, hu _ h0]⟩, Ent.refl _⟩
 | poll hq hR hs hn =>
  exact (fk (op := 2) (Q := fun U => U = _) (by omega) (by omega) (by omega) hp hc (zQ ((vy hF.ok hq hR hs hn (by omega) (by omega)).mono fun v m hv => ⟨m, ⟨⟨v, rfl⟩, _, rfl, hv.2⟩, Ent.refl _⟩))).mono fun v m ⟨hv, U, hU, hm⟩ => ⟨m, ⟨hv, p, by rw [hm, hU]⟩, Ent.refl _⟩
 | beat hlt ht hR hn =>
  exact (fk (op := 3) (Q := fun U => U = _) (by omega) (by omega) hlt hp hc (rZ ((vX hF.ok ht hR hn (by omega)).mono fun v m hv => ⟨m, ⟨hv.1, _, rfl, hv.2⟩, Ent.refl _⟩))).mono fun v m ⟨hv, U, hU, hm⟩ => ⟨m, ⟨hv, p, by rw [hm, hU]⟩, Ent.refl _⟩
 | complete hlt ht =>
  exact (fk (op := 4) (Q := fun U => U = _) (by omega) (by omega) hlt hp hc (rY ((mR hF.ok ht (by omega)).mono fun v m hv => ⟨m, ⟨hv.1, _, rfl, hv.2⟩, Ent.refl _⟩))).mono fun v m ⟨hv, U, hU, hm⟩ => ⟨m, ⟨hv, p, by rw [hm, hU]⟩, Ent.refl _⟩
 | fail hlt ht =>
  exact (fk (op := 5) (Q := fun U => U = _) (by omega) (by omega) hlt hp hc (rX ((vN hF.ok ht (by omega) (by omega)).mono fun v m hv => ⟨m, ⟨hv.1, _, rfl, hv.2⟩, Ent.refl _⟩))).mono fun v m ⟨hv, U, hU, hm⟩ => ⟨m, ⟨hv, p, by rw [hm, hU]⟩, Ent.refl _⟩
 | cancel hlt hR =>
  exact (fk (op := 6) (Q := fun U => U = _) (by omega) (by omega) hlt hp hc (zP ((xJ hF.ok hR (by omega)).mono fun v m hv => ⟨m, ⟨hv.1, _, rfl, hv.2⟩, Ent.refl _⟩))).mono fun v m ⟨hv, U, hU, hm⟩ => ⟨m, ⟨hv, p, by rw [hm, hU]⟩, Ent.refl _⟩
 | tick hlt ht =>
  exact (fk (op := 7) (Q := fun U => U = _) (by omega) (by omega) hlt hp hc (rW ((vq hF.ok hlt a1 a2).mono fun v m ⟨h1, U, h2, h3⟩ => ⟨m, ⟨h1, U, h2.unique ht, h3⟩, Ent.refl _⟩))).mono fun v m ⟨hv, U, hU, hm⟩ => ⟨m, ⟨hv, p, by rw [hm, hU]⟩, Ent.refl _⟩
 | seed hlt =>
  exact (fk (op := 8) (Q := fun U => U = _) (by omega) (by omega) hlt hp hc (zO ((wA _).mono fun v m hv => ⟨m, ⟨hv.1, _, rfl, hv.2⟩, Ent.refl _⟩))).mono fun v m ⟨hv, U, hU, hm⟩ => ⟨m, ⟨hv, p, by rw [hm, hU]⟩, Ent.refl _⟩
end Go.Proofs.YtmeegfamopaljaaGreatDoor

set_option maxRecDepth 10000
namespace FK
def kz (ns : List ByteArray) : List ByteArray := ((ns.map fun s => s.data.toList).mergeSort fun x y => decide (x ≤ y)).map fun l => ⟨l.toArray⟩
end FK
namespace Go.SL
open Go Go.RowKit
variable {P : Program} {E : Env} {n i : Nat} {D : List Deferred} {ts : List (Nat × Value)} {l : List HP} {ty : TypeId} {pos : String} {af : Array Edge} {g : Option (Nat × Bool)} {Q : Exit → Act → World → Prop}
theorem zb {src dst e : TypeId} {x : Operand} {s : ByteArray} {K : Act → World → Prop} (hi : Nat.blt i n = true) (hs : P.underlying src = some .string) (hd : P.underlying dst = some (.slice e)) (he : P.underlying e = some (.int .u8)) (hx : ev ts x = some (.string s))
 (h : ∀ b c fz, s.size ≤ c → At E n D ((i, .slice (some ⟨b, 0, none⟩) s.size c) :: ts) (ob b (.cells (bytesRow s c) e fz) :: l) K) : At E n D ts l (fun a w => (Oper.mk (some i) (.convert src dst x) ty pos af g).wp P a w K Q) := fun a w ft hw => by
 have hr := run_bytes_of_string (P := P) w src dst e s hs hd he
 have : (execOp a.eval (Oper.mk (some i) (.convert src dst x) ty pos af g)).run P w = .ok (.value (.slice (some ⟨w.heap.size, 0, none⟩) s.size (grownCap w s.size 0 e))) (w.drew.alloc (.cells (bytesRow s (grownCap w s.size 0 e)) e ((bytesRow s (grownCap w s.size 0 e)).size, (bytesRow s (grownCap w s.size 0 e)).size + 1))) := by
  simp only [execOp, ft.eval hx, Sem.run_bind, hr, Result.andThen_ok, Sem.run_pure]
 show (Oper.mk (some i) (.convert src dst x) ty pos af g).wp P a w K Q
 unfold Oper.wp
 rw [this]
 exact h _ _ _ (grownCap_ge _ _ _ _) _ _ (ft.put i (Nat.le_of_ble_eq_true hi) _) ((hw.drawn _).alloc _)
end Go.SL
namespace Go.Proofs.YtmeegfamopaljaaGreatDoor
open Go Go.RowKit Go.SL
variable {G : Env → Prop}
theorem Bh (ns : List ByteArray) : (ns.map fun s => s.data.toList).map encStr = ns.map bH := by
 rw [List.map_map]
 refine List.map_congr_left fun s _ => ?_
 show Value.string ⟨s.data.toList.toArray⟩ = .string s
 rw [Array.toArray_toList]
theorem xB (ns : List ByteArray) : ((ns.map fun s => s.data.toList).mergeSort fun x y => decide (x ≤ y)).map encStr = (FK.kz ns).map bH := by
 unfold FK.kz
 rw [List.map_map]
 rfl
theorem ub {A : Option Addr} {c : Nat} {ns : List ByteArray} (hl : ns.length ≤ 1000000) : Does Tryz.prog G 333 [.slice A ns.length c].toArray [row 9 1 (.slice A ns.length c) ns.length (ns.map bH)] fun v m => v = .tuple #[] ∧ m = [row 9 1 (.slice A ns.length c) ns.length ((FK.kz ns).map bH)] := fun E w fr hE hw => by
 have hr := hw.row .head
 rcases hr.2 with ⟨h0, h1⟩ | ⟨g, cap, cur, hv, hb, hg, h1, h2, h3, h4⟩
 · have hns : ns = [] := List.eq_nil_of_length_eq_zero h1
   subst hns
   refine (fK A c w).mono fun e w' ⟨he, hw'⟩ => ?_
   subst hw'
   exact ⟨_, _, he, ⟨rfl, rfl⟩, by
   have e0 : (FK.kz []).map bH = ([] : List Value) := by simp [FK.kz]
   rw [e0]; exact hw⟩
 · have hA : A = some ⟨g, 0, none⟩ ∧ c = cap := by injection hv with a1 _ a3; exact ⟨a1, a3⟩
   obtain ⟨rfl, rfl⟩ := hA
   have hlen : (ns.map fun s => s.data.toList).length = ns.length := List.length_map _
   rw [Nat.mul_one] at h4
   have hH := holds_of_block (ss := ns.map fun s => s.data.toList) hg (by rw [hlen, h4, Bh])
   have hc := lP g 0 c (ns.map fun s => s.data.toList) w hH (Array.getElem?_eq_some_iff.1 hg).1 (by omega)
   rw [hlen] at hc
   refine hc.mono fun e w' ⟨he, n, os, hw'⟩ => ?_
   subst hw'
   refine ⟨_, _, he, ⟨rfl, rfl⟩, ?_⟩
   have ho := ownsRow_sorted (w := w) (base := 0) (n := n) (os := os) (ss := ns.map fun s => s.data.toList) (ts := (ns.map fun s => s.data.toList).mergeSort fun x y => decide (x ≤ y)) (by simp) (Nat.zero_le _) hg (by rw [hlen]; exact h1) h2 h3
   rw [hlen, xB] at ho
   exact j0 hw (grownBy_sorted _) ho (.inl Z)
theorem A0 : e7 Tryz.prog 9 (.string ⟨#[]⟩) 1 16 := by unfold e7; kernel_rfl
theorem zH (s : ByteArray) : Instr.fill (fun i => some (i * 1, 1)) (Array.map (fun x => (Value.string ⟨#[]⟩).cells[x % (Value.string ⟨#[]⟩).cells.size]!) (Array.range (1 * 1))) ((List.map (fun x => x.fst) [((0 : Nat), Operand.tmp 21)]).zip [bH s]) = some #[bH s] := by
 have e1 : Array.range (1 * 1) = #[0] := rfl
 rw [e1]
 simp [Instr.fill, Value.cells]
set_option maxHeartbeats 1000000 in
theorem ux {d : Nat} {σ : FK.Dsk} (hd : σ.down = false) (hn : σ.now.length ≤ 1000000) : Does Tryz.prog G 327 [aO d].toArray [ak d σ] fun v m => ∃ ns A c, ns.Perm (σ.now.map (·.1)) ∧ v = .tuple #[.slice A ns.length c, .nilIface] ∧ m = [row 9 1 (.slice A ns.length c) ns.length ((FK.kz ns).map bH), ak d σ] := by
 obtain ⟨dur, now, pend, left, full, down⟩ := σ
 simp only at hd hn
 subst hd
 refine Does.body Tryz.func327 Z Z fun E fr hE => ?_
 refine ai ?_
 refine At.ex .head fun q => bq ?_
 refine At.ent (l' := kD d q ⟨dur, now, pend, left, full, false⟩ fr) (Ent.refl _) ?_
 refine At.ex (.tail (.tail .head)) fun M => bq ?_
 refine At.ent (l' := HP.pure (Names q.P M now) :: bP bH q.mn (cQ M) :: blk d 131 (ff q ⟨dur, now, pend, left, full, false⟩) :: aX q.md q.P dur :: dt q.P :: row 211 3 q.pv pend.length (fx pend) :: fr) (Ent.refl _) ?_
 refine At.pure .head fun hN => ?_
 have hMl : M.length = now.length := by rw [← List.length_map (f := (·.1)), hN.keys, List.length_map]
 refine At.seq (At.region (L.as Z Z (L.as Z Z (L.nil (At.then (At.seq (At.seq (At.region (L.mv Z Z (aR Z Z (aI 5 Z Z Z (bd Z Z Z Z (L.nil (At.then (aj Z (At.skip (At.then (At.seq (At.region ?_)))))))))))))))))))
 refine L.as Z Z (L.nil (At.then (At.seq (At.seq (At.region (L.mv Z Z (aR Z Z (aI 1 Z Z Z (bd Z Z Z Z (L.op Z (m8 (b := q.mn) (m := cQ M) Z Z Z .head fun it => (L.nil (At.then (At.block ?_))))))))))))))
 refine bk (X := List (ByteArray × Nat) × Option (ByteArray × Value) × List ByteArray × Value) (fun x => [(15, .pointer (some ⟨it, 0, none⟩)), (4, x.2.2.2), (0, aO d)]) (fun x => cR bH it q.mn (cQ M) (cQ x.1) x.2.1 :: row 9 1 x.2.2.2 x.2.2.1.length (x.2.2.1.map bH) :: blk d 131 (ff q ⟨dur, now, pend, left, full, false⟩) :: aX q.md q.P dur :: dt q.P :: row 211 3 q.pv pend.length (fx pend) :: fr) (fun x => (M.map (·.1)).Perm (x.2.2.1 ++ x.1.map (·.1))) (fun x => x.1.length) (M, none, [], .slice none 0 0) (List.Perm.refl _) ⟨rfl, rfl, rfl, trivial⟩ (by show Ent _ (cR bH it q.mn (cQ M) (cQ M) none :: row 9 1 (.slice none 0 0) 0 [] :: blk d 131 (ff q ⟨dur, now, pend, left, full, false⟩) :: aX q.md q.P dur :: dt q.P :: row 211 3 q.pv pend.length (fx pend) :: fr); exact (Ent.row0 (e := 9) (size := 1)).trans al) ?_
 rintro ⟨left', cur, ns, y⟩ hperm
 replace hperm : (M.map (·.1)).Perm (ns ++ left'.map (·.1)) := hperm
 have hcnt := hperm.length_eq
 rw [List.length_append, List.length_map, List.length_map] at hcnt
 refine At.ent (l' := cR bH it q.mn (cQ M) (cQ left') cur :: row 9 1 y ns.length (ns.map bH) :: blk d 131 (ff q ⟨dur, now, pend, left, full, false⟩) :: aX q.md q.P dur :: dt q.P :: row 211 3 q.pv pend.length (fx pend) :: fr) (Ent.refl _) ?_
 refine At.seq ?_
 by_cases HL : left' = []
 ·
  subst HL
  refine At.region ?_
  refine L.op Z (kH Z Z .head (fun _ => ?_) (fun j q hj => by simp at hj))
  refine L.ex Z Z Z (L.nil (At.then (At.seq (aj Z (At.exit (az (ay (ar (At.then (At.seq ?_))))))))))
  rw [List.map_nil, List.append_nil] at hperm
  refine aC (.tail .head) ?_
  rintro A c rfl - - - - -
  refine At.region (L.mv Z Z ?_)
  refine L.op Z (ah Z Z Z hE (ub (c := c) (by omega)) (Ent.sel (.tail .head)) ?_)
  rintro v m ⟨rfl, rfl⟩
  refine ai (L.nil (At.then (At.seq (At.region (L.mv Z Z (L.as Z Z (L.as Z Z (L.nil (At.then (At.ret ?_))))))))))
  refine cU [row 9 1 (.slice A ns.length c) ns.length ((FK.kz ns).map bH), ak d ⟨dur, now, pend, left, full, false⟩] rfl Z Z ⟨ns, A, c, by rw [← hN.keys]; exact hperm.symm, rfl, rfl⟩ ?_
  show Ent _ (row 9 1 (.slice A ns.length c) ns.length ((FK.kz ns).map bH) :: ak d ⟨dur, now, pend, left, full, false⟩ :: fr)
  refine Ent.cons (Ent.trans ?_ (bL q ⟨dur, now, pend, left, full, false⟩))
  refine Ent.trans (Ent.ranged.trans (bV hN)) ?_
  show Ent _ (_ :: aX q.md q.P dur :: aX q.mn q.P now :: dt q.P :: _ :: fr)
  exact al
 ·
  refine At.region ?_
  refine L.op Z (kH Z Z .head (fun h => absurd (List.map_eq_nil_iff.1 h) HL) (fun j q' hj => ?_))
  obtain ⟨x, hx, rfl⟩ : ∃ x, left'[j]? = some x ∧ (x.1, aO x.2) = q' := by
   rw [List.getElem?_map] at hj
   cases hl : left'[j]? with
   | none => rw [hl] at hj; cases hj
   | some x => rw [hl] at hj; injection hj with hj; exact ⟨x, rfl, hj⟩
  have hjl := (List.getElem?_eq_some_iff.1 hx).1
  have hpe := kP hx
  have hp2 : (M.map (·.1)).Perm ((ns ++ [x.1]) ++ (left'.eraseIdx j).map (·.1)) := by
   rw [List.append_assoc]
   exact hperm.trans (List.Perm.append_left ns (hpe.map (·.1)))
  rw [← fq]
  refine L.ex Z Z Z (L.nil (At.then (At.seq (aQ Z (At.skip (At.then (At.block (At.seq (At.region (L.val Z (nU (p := (x.1, aO x.2)) Z) (lb .head) (L.ex Z Z Z (L.as Z Z (L.nil (At.then (At.region (L.mv Z Z (L.mv Z Z ?_)))))))))))))))))
  refine L.op Z (dF (m := 1) (z := .string ⟨#[]⟩) (size := 1) (ps := [(0, .tmp 21)]) (vs := [bH x.1]) (cs := #[bH x.1]) Z Z Z Z (by omega) (by omega) Z (zH _) fun b22 => ?_)
  refine L.op rfl (cm rfl rfl A0 rfl (by omega) rfl rfl (HasVal.sel (v := y)) (news := [bH x.1]) rfl (fun h => by cases h) (fN (fun j u h => by simpa using h)) (by simp [Value.oneCell']) (by unfold maxLen; omega) (by omega) fun v23 hv23 => ?_)
  refine L.as Z Z (L.nil (an (At.round (left'.eraseIdx j, some (x.1, aO x.2), ns ++ [x.1], v23) hp2 (by show (left'.eraseIdx j).length < left'.length; rw [List.length_eraseIdx_of_lt hjl]; omega) ⟨rfl, rfl, rfl, trivial⟩ ?_)))
  show Ent _ (cR bH it q.mn (cQ M) (cQ (left'.eraseIdx j)) (some (x.1, aO x.2)) :: row 9 1 v23 (ns ++ [x.1]).length ((ns ++ [x.1]).map bH) :: blk d 131 (ff q ⟨dur, now, pend, left, full, false⟩) :: aX q.md q.P dur :: dt q.P :: row 211 3 q.pv pend.length (fx pend) :: fr)
  rw [List.length_append, List.map_append]
  show Ent _ (cR bH it q.mn (cQ M) (cQ (left'.eraseIdx j)) (some (x.1, aO x.2)) :: row 9 1 v23 (ns.length + 1) (ns.map bH ++ [bH x.1]) :: blk d 131 (ff q ⟨dur, now, pend, left, full, false⟩) :: aX q.md q.P dur :: dt q.P :: row 211 3 q.pv pend.length (fx pend) :: fr)
  exact al
abbrev jC (b c : Nat) (s : ByteArray) (fz : Nat × Nat) : HP := ob b (.cells (bytesRow s c) 5 fz)
theorem wK {b c : Nat} {s : ByteArray} {fz : Nat × Nat} : Reads (jC b c s fz) (some ⟨b, 0, none⟩) s.data.toList where
 form _ := ⟨b, 0, rfl⟩
 cell w F hp b' o he j x hx := by
  injection he with he
  injection he with e1 e2
  subst e1; subst e2
  have hx' : s.data[j]? = some x := by simpa using hx
  have hj : j < s.data.size := by
   obtain ⟨h, _⟩ := Array.getElem?_eq_some_iff.1 hx'
   exact h
  simp [World.cell?, hp.2, bytesRow, Array.getElem?_append, hx']
  intro h
  have : s.size = s.data.size := rfl
  omega
theorem wL {d : Nat} {σ : FK.Dsk} {name s : ByteArray} (hd : σ.down = false) (hn : FK.dO σ.now name = some s) : Does Tryz.prog G 328 [aO d, bH name].toArray [ak d σ] fun v m => ∃ b c fz, s.size ≤ c ∧ v = .tuple #[.slice (some ⟨b, 0, none⟩) s.size c, .nilIface] ∧ m = [jC b c s fz, ak d σ] := by
 obtain ⟨dur, now, pend, left, full, down⟩ := σ
 simp only at hd hn
 subst hd
 refine Does.body Tryz.func328 Z Z fun E fr hE => ?_
 refine ai ?_
 refine At.ex .head fun q => bq ?_
 refine At.ent (l' := kD d q ⟨dur, now, pend, left, full, false⟩ fr) (Ent.refl _) ?_
 refine At.ex (.tail (.tail .head)) fun M => bq ?_
 refine At.ent (l' := HP.pure (Names q.P M now) :: bP bH q.mn (cQ M) :: blk d 131 (ff q ⟨dur, now, pend, left, full, false⟩) :: aX q.md q.P dur :: dt q.P :: row 211 3 q.pv pend.length (fx pend) :: fr) (Ent.refl _) ?_
 refine At.pure .head fun hN => ?_
 obtain ⟨bs, hM, hP⟩ : ∃ b, FK.dO M name = some b ∧ (b, s) ∈ q.P := by
  rcases hN.get name with h | ⟨b, s', h1, h2, h3⟩
  · rw [h.2] at hn; cases hn
  · rw [h2] at hn; injection hn with hn; subst hn; exact ⟨b, h1, h3⟩
 refine At.seq (At.region (L.as Z Z (L.as Z Z (L.nil (At.then (At.seq (At.seq (At.region (L.mv Z Z (aR Z Z (aI 5 Z Z Z (bd Z Z Z Z (L.nil (At.then (aj Z (At.skip (At.then (At.seq (At.region ?_)))))))))))))))))))
 refine L.mv Z Z (aR Z Z (aI 1 Z Z Z (bd Z Z Z Z (L.mv Z Z (L.val Z (i6 (m := cQ M) (a := name) (v := aO bs) Z hK Z Z (by rw [iO, hM]; rfl)) (fB .head) (L.mv Z Z (L.ex Z Z Z (L.ex Z Z Z (L.as Z Z (L.as Z Z (L.nil (At.then (At.seq (At.seq (At.region (L.mv Z Z (L.pure Z (cg Z Z) (L.nil (At.then ?_)))))))))))))))))))
 refine aj Z (At.skip (At.then (At.seq (At.region (L.mv Z Z (aR Z Z (L.val Z (aa (v := bH s) Z Z) (rD hP (.tail (.tail (.tail .head)))) (L.op Z (zb Z Z Z Z Z fun b28 c28 fz hc28 => (L.as Z Z (L.as Z Z (L.nil (At.then (At.ret (cU [jC b28 c28 s fz, ak d ⟨dur, now, pend, left, full, false⟩] rfl Z Z ⟨b28, c28, fz, hc28, rfl, rfl⟩ ?_)))))))))))))))
 refine Ent.cons (Ent.trans ?_ (bL q ⟨dur, now, pend, left, full, false⟩))
 refine Ent.trans (bV hN) ?_
 show Ent _ (_ :: aX q.md q.P dur :: aX q.mn q.P now :: dt q.P :: _ :: fr)
 exact al
end Go.Proofs.YtmeegfamopaljaaGreatDoor

namespace Go.Proofs.YtmeegfamopaljaaGreatDoor
open Go Go.RowKit Go.SL
variable {G : Env → Prop}
section
variable {l : List (List UInt8)} {S U : FK.En}
theorem rc {s : ByteArray} (hl : s.size ≤ 18) (h : Lib.atoi s.data.toList = none) : Does Tryz.prog Good 169 [bH s].toArray [] fun v m => (∃ t x, v = .tuple #[.int .i64 0, .iface t x]) ∧ m = [] := fun E w fr hE hw => by
 obtain ⟨t, p, hs⟩ := hE.syn w hw.is
 exact (jF s hl h _ w hs (.inr ⟨_, _, rfl⟩)).mono fun e w' ⟨N, he, _, _, hb⟩ => ⟨_, [], he, ⟨⟨_, _, rfl⟩, rfl⟩, hw.below hb⟩
theorem wn (s p : ByteArray) : Does Tryz.prog G 170 [bH s, bH p].toArray [] fun v m => v = bH ⟨(Lib.trimPrefix s.data.toList p.data.toList).toArray⟩ ∧ m = [] :=
 (eJ (φ := fun _ => True) fun _ w _ _ _ => (ja s p w).mono fun _ _ ⟨h1, h2⟩ => ⟨h1, by rw [h2]; exact Below.refl _ _⟩).does
theorem w6 : (⟨(Lib.trimPrefix (FK.bg 0).data.toList (⟨#[98, 97, 115, 101]⟩ : ByteArray).data.toList).toArray⟩ : ByteArray) = FK.bg 0 := by decide +kernel
theorem xa : Lib.atoi (FK.bg 0).data.toList = none := by decide +kernel
theorem w8 : (FK.bg 0).size ≤ 18 := by decide +kernel
theorem w7 : FK.kz [FK.bg 0] = [FK.bg 0] := by simp [FK.kz]
theorem w9 : (!((FK.bg 0).toList == ((⟨#[98, 97, 115, 101]⟩ : ByteArray) ++ FK.nt 0).toList)) = true := by decide +kernel
theorem zo : (!((FK.bg 0).toList == ((⟨#[108, 111, 103]⟩ : ByteArray) ++ FK.nt 0).toList)) = false := by decide +kernel
theorem BZ {d : Nat} (hl : (FK.bI l).length ≤ 1000000000) : Does Tryz.prog G 330 [aO d].toArray [ak d (FK.cw l 1)] fun v m => v = .nilIface ∧ m = [ak d (FK.cw l 2)] := by
 have := iV (G := G) (d := d) (σ := FK.cw l 1) (by rw [(FK.qA l 1).2]; show _ + 0 ≤ _; omega) (by show 0 ≤ _; omega)
 rw [FK.xd] at this
 exact this
theorem BY {d : Nat} (hl : (FK.bI l).length ≤ 1000000000) : Does Tryz.prog G 330 [aO d].toArray [ak d (FK.cw l 2)] fun v m => v = .nilIface ∧ m = [ak d (FK.cw l 3)] := by
 have := iV (G := G) (d := d) (σ := FK.cw l 2) (by rw [(FK.qA l 2).2]; show _ + 0 ≤ _; omega) (by show 0 ≤ _; omega)
 rw [FK.xc] at this
 exact this
theorem AW (l : List (List UInt8)) (k : Int) : FK.dO (FK.cw l k).now (FK.bg 0) = some (dr (FK.bI l)) := by
 have e : (FK.bg 0 == FK.bg 0) = true := (MapKept.bytes_beq _ _).2 rfl
 simp [FK.cw, FK.dO, e]
theorem wJ {b c : Nat} {l : List UInt8} {fz : Nat × Nat} : Reads (jC b c (dr l) fz) (some ⟨b, 0, none⟩) l := by
 have h := wK (b := b) (c := c) (s := dr l) (fz := fz)
 have e : (dr l).data.toList = l := by
  show l.toArray.toList = l
  simp
 rwa [e] at h
theorem _root_.FK.Reds.nil_eq (h : FK.Reds S [] U) : U = S := by
 cases h
 rfl
theorem _root_.FK.Reds.cons_eq {b : List UInt8} (h : FK.Reds S (b :: l) U) : ∃ S', FK.Fine S ∧ b.length ≤ 1000000001 ∧ FK.Redo S b S' ∧ FK.Reds S' l U := by
 cases h with
 | cons a1 a2 a3 a4 => exact ⟨_, a1, a2, a3, a4⟩
end
abbrev xS (f : Nat) : Value := .func (.func 110) #[aO f] #[]
set_option maxRecDepth 10000 in
set_option maxHeartbeats 4000000 in
theorem sM {f e d : Nat} {p : EA} {S U : FK.En} {l : List (List UInt8)} (v1 : Value) (hl : (FK.bI l).length ≤ 1000000000) (hR : FK.Reds S l U) : Does Tryz.prog Good 107 [mV d, v1, xS f].toArray [ak d (FK.cw l 1), gx f e (.pointer none), ap e p S] fun v m => ∃ j p', v = .tuple #[aO j, .nilIface] ∧ m = [au j d FK.J0, ak d (FK.cw l 3), gx f e (.pointer none), ap e p' U] := by
 refine kV Tryz.func107 Z Z fun E fr hE => ?_
 refine cE (At.seq (At.region (L.op Z (aN (z := .pointer none) Z Z fun b6 => (L.op Z (aN (z := .nilIface) Z Z fun b7 => (L.nil (At.then (At.seq (At.region (L.mv Z Z (L.pure Z (bn (ps := [(0, .tmp 25)]) (vs := [mV d]) (cs := mr d FK.J0) Z Z Z Z Z) (L.op Z (cb Z Z fun b27 => (aD b27 (mr d FK.J0) Z ?_)))))))))))))))
 refine L.st Z Z Z Z (by first | decide | simp | (simp; omega)) ?_
 refine aD b6 #[aO b27] rfl (L.nil (At.then (At.seq (At.region ?_))))
 refine L.pure Z (eO Z Z) ?_
 refine L.op Z (qy Z (L.nil (At.then (At.seq (At.seq (At.region (L.mv Z Z ?_)))))))
 refine L.op Z (ey Z Z Z (rp ⟨d, 0, none⟩) Z hE (BZ hl) (Ent.sel (.tail (.tail (.tail .head)))) ?_)
 rintro v m ⟨rfl, rfl⟩
 refine ai ?_
 refine L.st Z Z Z Z (by first | decide | simp | (simp; omega)) ?_
 refine aD b7 #[.nilIface] rfl ?_
 refine At.ent (l' := blk b7 109 #[.nilIface] :: blk b6 169 #[aO b27] :: au b27 d FK.J0 :: ak d (FK.cw l 2) :: gx f e (.pointer none) :: ap e p S :: fr) al ?_
 refine L.nil (At.then (At.seq (At.region (bd Z Z Z Z (L.pure Z (co Z Z) (L.nil (At.then (aj Z (At.skip (At.then (At.seq (At.region (L.mv Z Z ?_)))))))))))))
 refine L.op Z (ey Z Z Z (yt ⟨d, 0, none⟩) Z hE (ux Z (by show 1 ≤ 1000000; omega)) (Ent.sel (.tail (.tail (.tail .head)))) ?_)
 rintro v m ⟨ns, A9, c9, hns, rfl, rfl⟩
 refine aJ ?_
 obtain rfl : ns = [FK.bg 0] := List.perm_singleton.1 hns
 rw [w7]
 refine aC .head ?_
 rintro A8 c8 hA8 f1 f2 - - -
 obtain ⟨rfl, rfl⟩ : A9 = A8 ∧ c9 = c8 := by injection hA8 with a1 _ a3; exact ⟨a1, a3⟩
 obtain ⟨g9, rfl⟩ : ∃ g, A9 = some ⟨g, 0, none⟩ := by
  cases A9 with
  | none => have := (f1 rfl).1; cases this
  | some ad => obtain ⟨g, rfl⟩ := f2 ad rfl; exact ⟨g, rfl⟩
 refine L.mv Z Z (L.ex Z Z Z (L.ex Z Z Z (L.as Z Z ?_)))
 refine L.st Z Z Z Z (by first | decide | simp | (simp; omega)) ?_
 refine aD b7 #[.nilIface] rfl ?_
 refine At.ent (l' := blk b7 109 #[.nilIface] :: blk b6 169 #[aO b27] :: au b27 d FK.J0 :: ak d (FK.cw l 2) :: row 9 1 (.slice (some ⟨g9, 0, none⟩) 1 c9) 1 [bH (FK.bg 0)] :: gx f e (.pointer none) :: ap e p S :: fr) (by show Ent (blk b7 109 #[.nilIface] :: row 9 1 (.slice (some ⟨g9, 0, none⟩) 1 c9) 1 [bH (FK.bg 0)] :: ak d (FK.cw l 2) :: blk b6 169 #[aO b27] :: au b27 d FK.J0 :: gx f e (.pointer none) :: ap e p S :: fr) _; exact al) ?_
 refine L.nil (At.then (At.seq (At.seq (At.region (bd Z Z Z Z (L.pure Z (co Z Z) (L.nil (At.then (aj Z (At.skip (At.then (At.seq (At.region (L.as Z Z (L.nil (At.then (At.seq (At.seq (At.region ?_)))))))))))))))))))
 refine L.mv Z Z (L.pure Z (aM Z Z) (L.mv Z Z (L.nil (At.then (At.block ?_)))))
 refine bk (X := Nat) (fun k => [(42, .int .i64 k), (41, .int .i64 1), (40, .slice (some ⟨g9, 0, none⟩) 1 c9), (9, .slice none 0 0), (8, .slice (some ⟨g9, 0, none⟩) 1 c9), (7, aO b7), (6, aO b6), (2, xS f), (1, v1), (0, mV d)]) (fun _ => blk b7 109 #[.nilIface] :: blk b6 169 #[aO b27] :: au b27 d FK.J0 :: ak d (FK.cw l 2) :: row 9 1 (.slice (some ⟨g9, 0, none⟩) 1 c9) 1 [bH (FK.bg 0)] :: gx f e (.pointer none) :: ap e p S :: fr) (fun k => k ≤ 1) (fun k => 1 - k) 0 (Nat.zero_le _) ⟨rfl, rfl, rfl, rfl, rfl, rfl, rfl, rfl, rfl, rfl, trivial⟩ (Ent.refl _) ?_
 intro k hk
 refine At.seq (At.region (L.pure Z (bl Z Z Z) (L.nil (At.then (At.seq ?_)))))
 refine aE Z (fun c43 => ?_) (fun c43 => ?_)
 ·
  obtain rfl : k = 0 := by have : (k : Int) < 1 := c43; omega
  refine At.skip (At.then (At.seq (At.block (At.seq (At.region (L.pure Z (aT (z := 1) Z Z Z Z (by omega)) (L.val Z (aa (v := bH (FK.bg 0)) Z Z) (bJ (.tail (.tail (.tail (.tail .head)))) Z) (L.as Z Z (L.nil (At.then (At.seq (At.region (L.mv Z Z ?_)))))))))))))
  refine L.op Z (ah Z Z Z hE (wn (FK.bg 0) ⟨#[98, 97, 115, 101]⟩) (Ent.refl _) ?_)
  rintro v m ⟨rfl, rfl⟩
  refine aL ?_
  rw [w6]
  refine L.op Z (ah Z Z Z hE (rc w8 xa) (Ent.refl _) ?_)
  rintro v m ⟨⟨t49, x49, rfl⟩, rfl⟩
  refine aL (L.mv Z Z (L.ex Z Z Z (L.ex Z Z Z (L.as Z Z (L.as Z Z (L.nil (At.then (At.seq (At.seq (At.region (L.mv Z Z (L.pure Z (fv Z Z) (L.mv Z Z (L.off Z Z Z Z Z Z (L.off Z Z Z Z Z Z (L.off Z Z Z Z Z Z (L.off Z Z Z Z Z Z (L.off Z Z Z Z Z Z (L.off Z Z Z Z Z Z ?_)))))))))))))))))))
  refine L.pure Z (aq Z Z Z) (L.nil (At.then (aQ Z (At.exit (az (ar (At.then (At.region (L.pure Z (aS (r := 1) Z Z Z) (L.mv Z Z (L.nil ?_)))))))))))
  exact At.round 1 (Nat.le_refl _) (by omega) ⟨rfl, rfl, rfl, rfl, rfl, rfl, rfl, rfl, rfl, rfl, trivial⟩ (Ent.refl _)
 ·
  refine At.exit (az (ay (ar (At.then (At.seq (Dr.start Z (dP 0 Z Z (ae Z) (dL 1 Z Z (aa Z Z) (ag Z) (dP 2 Z Z (am Z) (dP 3 Z Z (ab (off := 1) Z Z) (dL 4 Z Z (aa Z Z) (ag Z) (dP 6 Z Z (qF Z) (dP 7 Z Z (ae Z) ?_)))))))))))))
  refine dR 5 Z Z (ah Z Z Z hE (iY (kind := ⟨#[108, 111, 103]⟩) (n := 0) (by omega) (by decide)) (Ent.refl _) ?_)
  rintro v m ⟨rfl, rfl⟩
  refine aL (dK [false, true] (Kept.cons (ag Z) Kept.nil) ?_)
  refine dR 8 Z Z (ey Z Z Z (BD ⟨d, 0, none⟩) Z hE (wL (σ := FK.cw l 2) (name := FK.bg 0) (s := dr (FK.bI l)) Z (AW l 2)) (Ent.sel (.tail (.tail (.tail .head)))) ?_)
  rintro v m ⟨b98, c98, fz, hc98, rfl, rfl⟩
  refine aJ (dK [true] (Kept.cons (ag Z) Kept.nil) (dP 9 Z Z (ae Z) (dP 10 Z Z (bc Z Z) (dP 11 Z Z (bc Z Z) (dP 12 Z Z (ax Z) ?_)))))
  refine dR 13 Z Z (bB Z Z Z Z Z (by show 0 < 1; omega) ?_)
  refine aD b7 #[.nilIface] rfl ?_
  rw [jM] at hc98 ⊢
  refine At.ent (l' := blk b7 109 #[.nilIface] :: blk b6 169 #[aO b27] :: au b27 d FK.J0 :: ak d (FK.cw l 2) :: row 9 1 (.slice (some ⟨g9, 0, none⟩) 1 c9) 1 [bH (FK.bg 0)] :: gx f e (.pointer none) :: ap e p S :: jC b98 c98 (dr (FK.bI l)) fz :: fr) al ?_
  refine dK [false] Kept.nil (dE (At.then (At.seq (At.seq (At.region (bd Z Z Z Z (L.pure Z (co Z Z) (L.mv Z Z (L.off Z Z Z Z Z Z (L.off Z Z Z Z Z Z (L.off Z Z Z Z Z Z (L.off Z Z Z Z Z Z (L.pure Z (aq Z Z Z) (L.nil (At.then (aj Z (At.skip (At.then (At.seq ?_)))))))))))))))))))
  refine At.seq (At.region (L.mv Z Z (L.pure Z (oF Z Z Z) (L.nil (At.then (aj Z (At.skip (At.then (At.seq (At.block ?_))))))))))
  refine bk (X := List (List UInt8) × FK.En × EA × Option Addr × Nat) (fun x => [(19, .slice x.2.2.2.1 (FK.bI x.1).length x.2.2.2.2), (8, .slice (some ⟨g9, 0, none⟩) 1 c9), (7, aO b7), (6, aO b6), (2, xS f), (0, mV d)]) (fun x => blk b7 109 #[.nilIface] :: blk b6 169 #[aO b27] :: au b27 d FK.J0 :: ak d (FK.cw l 2) :: row 9 1 (.slice (some ⟨g9, 0, none⟩) 1 c9) 1 [bH (FK.bg 0)] :: gx f e (.pointer none) :: ap e x.2.2.1 x.2.1 :: jC b98 c98 (dr (FK.bI l)) fz :: fr) (fun x => FK.Reds x.2.1 x.1 U ∧ Reads (jC b98 c98 (dr (FK.bI l)) fz) x.2.2.2.1 (FK.bI x.1) ∧ (FK.bI x.1).length ≤ x.2.2.2.2 ∧ (FK.bI x.1).length ≤ 1000000000) (fun x => x.1.length) (l, S, p, some ⟨b98, 0, none⟩, c98) ⟨hR, wJ, hc98, hl⟩ ⟨rfl, rfl, rfl, rfl, rfl, rfl, trivial⟩ (Ent.refl _) ?_
  rintro ⟨l1, S1, p1, A1, c1⟩ ⟨hR1, hp1, hc1, hl1⟩
  simp only at hR1 hp1 hc1 hl1
  refine At.ent (l' := blk b7 109 #[.nilIface] :: blk b6 169 #[aO b27] :: au b27 d FK.J0 :: ak d (FK.cw l 2) :: row 9 1 (.slice (some ⟨g9, 0, none⟩) 1 c9) 1 [bH (FK.bg 0)] :: gx f e (.pointer none) :: ap e p1 S1 :: jC b98 c98 (dr (FK.bI l)) fz :: fr) (Ent.refl _) ?_
  refine At.seq (At.seq ?_)
  by_cases HL : l1 = []
  ·
   subst HL
   obtain rfl := hR1.nil_eq
   refine At.region (L.mv Z Z (L.pure Z (aM Z Z) (L.pure Z (cG (r := false) Z Z Z) (L.mv Z Z (L.off Z Z Z Z Z Z (L.off Z Z Z Z Z Z (L.off Z Z Z Z Z Z (L.off Z Z Z Z Z Z (L.off Z Z Z Z Z Z (L.pure Z (aq Z Z Z) (L.nil (At.then (aj Z (At.exit (az (ay (ar (At.then (At.seq (At.seq (At.region (L.mv Z Z ?_))))))))))))))))))))))
   refine L.pure Z (aM Z Z) (L.mv Z Z (L.nil (At.then (At.block ?_))))
   refine bk (X := Nat) (fun k => [(142, .int .i64 k), (141, .int .i64 1), (140, .slice (some ⟨g9, 0, none⟩) 1 c9), (7, aO b7), (6, aO b6), (0, mV d)]) (fun _ => blk b7 109 #[.nilIface] :: blk b6 169 #[aO b27] :: au b27 d FK.J0 :: ak d (FK.cw l 2) :: row 9 1 (.slice (some ⟨g9, 0, none⟩) 1 c9) 1 [bH (FK.bg 0)] :: gx f e (.pointer none) :: ap e p1 U :: jC b98 c98 (dr (FK.bI l)) fz :: fr) (fun k => k ≤ 1) (fun k => 1 - k) 0 (Nat.zero_le _) ⟨rfl, rfl, rfl, rfl, rfl, rfl, trivial⟩ (Ent.refl _) ?_
   intro k hk
   refine At.seq (At.region (L.pure Z (bl Z Z Z) (L.nil (At.then (At.seq ?_)))))
   refine aE Z (fun c143 => ?_) (fun c143 => ?_)
   ·
    obtain rfl : k = 0 := by have : (k : Int) < 1 := c143; omega
    refine At.skip (At.then (At.seq (At.block (At.seq (At.region (L.pure Z (aT (z := 1) Z Z Z Z (by omega)) (L.val Z (aa (v := bH (FK.bg 0)) Z Z) (bJ (.tail (.tail (.tail (.tail .head)))) Z) (L.as Z Z (L.nil (At.then (At.seq (At.region (L.mv Z Z (bd Z Z Z Z (aR Z Z (aI 1 Z Z Z (bd Z Z Z Z ?_)))))))))))))))))
    refine L.op Z (ah Z Z Z hE (iY (kind := ⟨#[98, 97, 115, 101]⟩) (n := 0) (by omega) (by decide)) (Ent.refl _) ?_)
    rintro v m ⟨rfl, rfl⟩
    refine aL (L.pure Z (pS Z Z Z w9) (L.mv Z Z (lT Z Z Z (ae Z) (lA Z Z Z (aa Z Z) (ag Z) (lT Z Z Z (am Z) (lT Z Z Z (ab (off := 1) Z Z) (lA Z Z Z (aa Z Z) (ag Z) ?_)))))))
    refine L.on Z Z Z (ah Z Z Z hE (iY (kind := ⟨#[108, 111, 103]⟩) (n := 0) (by omega) (by decide)) (Ent.refl _) ?_)
    rintro v m ⟨rfl, rfl⟩
    refine aL (lT Z Z Z (pS Z Z Z zo) (L.pure Z (aq Z Z Z) (L.nil (At.then (aj Z (At.skip (an (At.then (At.region (L.pure Z (aS (r := 1) Z Z Z) (L.mv Z Z (L.nil ?_))))))))))))
    exact At.round 1 (Nat.le_refl _) (by omega) ⟨rfl, rfl, rfl, rfl, rfl, rfl, trivial⟩ (Ent.refl _)
   ·
    refine At.exit (az (ay (ar (At.then (At.seq (At.region (L.mv Z Z ?_)))))))
    refine L.op Z (ey Z Z Z (rp ⟨d, 0, none⟩) Z hE (BY hl) (Ent.sel (.tail (.tail (.tail .head)))) ?_)
    rintro v m ⟨rfl, rfl⟩
    refine ai ?_
    refine L.st Z Z Z Z (by first | decide | simp | (simp; omega)) ?_
    refine aD b7 #[.nilIface] rfl (L.nil (At.then (At.ret ?_)))
    refine At.leave (.inl Z) Z Z hE (ow b6 b7) (Ent.refl _) ?_
    rintro m rfl
    refine ai (fe [au b27 d FK.J0, ak d (FK.cw l 3), gx f e (.pointer none), ap e p1 U] rfl (eR Z Z (ag Z)) (eR Z Z (ag Z)) ⟨b27, p1, rfl, rfl⟩ ?_)
    show Ent _ (au b27 d FK.J0 :: ak d (FK.cw l 3) :: gx f e (.pointer none) :: ap e p1 U :: fr)
    exact al
  ·
   obtain ⟨x, l2, rfl⟩ : ∃ x l2, l1 = x :: l2 := by
    cases l1 with
    | nil => exact absurd rfl HL
    | cons x l2 => exact ⟨x, l2, rfl⟩
   obtain ⟨S2, hF1, hx1, hx2, hR2⟩ := hR1.cons_eq
   have hfp := FK.xp x
   have hlen1 : (FK.bI (x :: l2)).length = (FK.frame x).length + (FK.bI l2).length := by rw [FK.mK, List.length_append]
   refine At.region (L.mv Z Z (L.pure Z (aM Z Z) (L.pure Z (cG (r := true) Z Z (by simp; omega)) (L.mv Z Z (lA Z Z Z (aa Z Z) (ag Z) (lT Z Z Z (am Z) (lT Z Z Z (ab (off := 2) Z Z) (lA Z Z Z (aa Z Z) (ag Z) (lT Z Z Z (cg Z Z) (L.pure Z (aq Z Z Z) (L.nil (At.then (aQ Z (At.skip (At.then (At.block (At.seq (At.region (L.mv Z Z ?_)))))))))))))))))))
   refine L.op Z (ah Z Z Z hE (wW hp1 hc1 (Nat.le_trans hl1 (by omega))) (Ent.sel (.tail (.tail (.tail (.tail (.tail (.tail (.tail .head)))))))) ?_)
   rintro v m ⟨hv, rfl⟩
   refine ai ?_
   obtain ⟨A3, c3, A4, c4, rfl, hp3, hc3, hp4, hc4⟩ : ∃ A3 c3 A4 c4, v = .tuple #[.slice A3 x.length c3, .slice A4 (FK.bI l2).length c4, .bool true] ∧ Reads (jC b98 c98 (dr (FK.bI l)) fz) A3 x ∧ x.length ≤ c3 ∧ Reads (jC b98 c98 (dr (FK.bI l)) fz) A4 (FK.bI l2) ∧ (FK.bI l2).length ≤ c4 := by
    have hnx := FK.uw x (FK.bI l2) (by omega)
    rw [FK.mK] at hv
    rcases hv with ⟨h, _⟩ | ⟨x', r', A3, c3, A4, c4, h, hv, h1, h2, h3, h4⟩
    · rw [hnx] at h; cases h
    · rw [hnx] at h
      injection h with h
      injection h with e1 e2
      subst e1; subst e2
      exact ⟨A3, c3, A4, c4, hv, h1, h2, h3, h4⟩
   refine L.mv Z Z (L.ex Z Z Z (L.ex Z Z Z (L.ex Z Z Z (L.as Z Z (L.as Z Z (L.as Z Z (L.nil (At.then (At.seq (At.region (bd Z Z Z Z (L.mv Z Z (L.pure Z (cg Z Z) (aR Z Z (aI 2 Z Z Z ?_)))))))))))))))
   refine L.st Z Z Z Z (by first | decide | simp | (simp; omega)) ?_
   refine aD b27 (mr d FK.J0) Z (L.nil (At.then (At.seq (At.region (L.mv Z Z (L.nil (At.then (aQ Z (At.seq (At.region (L.mv Z Z (L.mv Z Z ?_))))))))))))
   refine L.op Z (j6 Z Z Z Z hE (wI hF1 hx2 hp3 hc3) (cc (.tail (.tail (.tail (.tail (.tail (.tail .head)))))) (.tail (.tail (.tail (.tail (.tail (.tail .head)))))) (.tail .head)) ?_)
   rintro v m ⟨rfl, p2, rfl⟩
   refine cE (L.nil (At.then (At.region (L.mv Z Z (L.as Z Z (L.nil (an (At.round (l2, S2, p2, A4, c4) ⟨hR2, hp4, hc4, by show (FK.bI l2).length ≤ 1000000000; omega⟩ (by show l2.length < (x :: l2).length; simp) ⟨rfl, rfl, rfl, rfl, rfl, rfl, trivial⟩ ?_))))))))
   show Ent _ (blk b7 109 #[.nilIface] :: blk b6 169 #[aO b27] :: au b27 d FK.J0 :: ak d (FK.cw l 2) :: row 9 1 (.slice (some ⟨g9, 0, none⟩) 1 c9) 1 [bH (FK.bg 0)] :: gx f e (.pointer none) :: ap e p2 S2 :: jC b98 c98 (dr (FK.bI l)) fz :: fr)
   exact al
open Go Go.RowKit Go.SL
variable {G : Env → Prop}
theorem xM {vs : List Value} {ns : List FK.Node} {i : Nat} {u : Value} {nd : FK.Node} (hu : vs[i]? = some u) (hn : ns[i]? = some nd) : bf (vs.drop i) (ns.drop i) = aF u nd.after :: bf (vs.drop (i + 1)) (ns.drop (i + 1)) := by
 obtain ⟨h1, h2⟩ := List.getElem?_eq_some_iff.1 hu
 obtain ⟨h3, h4⟩ := List.getElem?_eq_some_iff.1 hn
 rw [List.drop_eq_getElem_cons h1, List.drop_eq_getElem_cons h3, h2, h4]
 rfl
set_option maxRecDepth 10000 in
theorem pn (dl : Int) (A : Option Addr) (c : Nat) (ns : List FK.Node) : Does Tryz.prog G 47 [.agg #[.int .i64 dl, .slice A ns.length c]].toArray [nodesOwn (.slice A ns.length c) ns] fun v m => v = .tuple #[] ∧ m = [] := by
 refine Does.body Tryz.func47 Z Z fun E fr hE => ?_
 refine ai (gL .head ?_)
 intro vs hvs
 refine aC .head ?_
 intro A' c' hA hnil hform hc1 hc2 hlen
 injection hA with hA _ hcc
 subst hA; subst hcc
 have hc3 : c ≤ 9223372036854775807 := by unfold maxLen at hc2; omega
 refine At.seq (At.region (L.op Z (cb Z Z fun b1 => (L.nil (At.then (At.seq (At.region (aI 1 Z Z Z (bd Z Z Z Z (L.pure Z (aM Z Z) (L.mv Z Z (L.nil (At.then (At.block ?_))))))))))))))
 refine bk (X := Nat × List Value) (fun x => [(7, .int .i64 x.1), (6, .int .i64 ns.length), (1, .pointer (some ⟨b1, 0, none⟩))]) (fun x => blk b1 29 #[.int .i64 dl, .slice A ns.length c] :: row 46 7 (.slice A ns.length c) ns.length x.2 :: (bf (vs.drop x.1) (ns.drop x.1) ++ fr)) (fun x => x.1 ≤ ns.length ∧ x.2.length = ns.length * 7 ∧ ∀ j u, x.1 ≤ j → vs[j]? = some u → x.2[j * 7 + 6]? = some u) (fun x => ns.length - x.1) (0, aZ ns vs) ⟨by omega, hlen, fun j u _ hu => (by obtain ⟨h1, _⟩ := List.getElem?_eq_some_iff.1 hu; rw [fo ns vs j 6 ns[j] u hvs (by simp) hu (by omega)]; rfl)⟩ ⟨rfl, rfl, rfl, trivial⟩ (Ent.refl _) ?_
 rintro ⟨i, xs⟩ ⟨hi, hxl, hxs⟩
 simp only at hi hxl hxs ⊢
 refine At.seq (At.region (L.pure Z (bl Z Z Z) (L.nil (At.then (At.seq ?_)))))
 refine aE Z (fun c8 => ?_) (fun c8 => ?_)
 ·
  have hlt : i < ns.length := by omega
  obtain ⟨g, rfl⟩ : ∃ g, A = some ⟨g, 0, none⟩ := by
   cases A with
   | none => have := (hnil rfl).1; omega
   | some ad => obtain ⟨g, rfl⟩ := hform ad rfl; exact ⟨g, rfl⟩
  obtain ⟨nd, cN⟩ : ∃ nd, ns[i]? = some nd := ⟨ns[i], by simp [hlt]⟩
  obtain ⟨u, hu⟩ : ∃ u, vs[i]? = some u := ⟨vs[i]'(by omega), by simp⟩
  rw [xM hu cN]
  refine aC (.tail (.tail (.head))) ?_
  rintro A6 c6 rfl hnil6 hform6 h61 h62 h63
  have h64 : c6 ≤ 9223372036854775807 := by unfold maxLen at h62; omega
  refine At.skip (At.then (At.seq (At.block (At.seq (At.region (L.mv Z Z (L.as Z Z (L.nil (At.then (At.seq (At.seq (At.region (aI 1 Z Z Z (bd Z Z Z Z (L.mv Z Z (L.pure Z (aT (z := 7) Z Z Z Z hlt) (aI 6 Z Z Z (L.val Z (aa Z Z) (bJ (.tail (.head)) (by simpa using hxs i _ (Nat.le_refl _) hu)) (L.pure Z (aM Z Z) ?_)))))))))))))))))))
  refine L.mv Z Z (L.nil (At.then (At.block ?_)))
  refine bk (X := Nat × List Value) (fun x => [(17, .int .i64 x.1), (16, .int .i64 nd.after.length), (2, .int .i64 i), (7, .int .i64 i), (6, .int .i64 ns.length), (1, .pointer (some ⟨b1, 0, none⟩))]) (fun x => row 3 1 (.slice A6 nd.after.length c6) nd.after.length x.2 :: blk b1 29 #[.int .i64 dl, .slice (some ⟨g, 0, none⟩) ns.length c] :: row 46 7 (.slice (some ⟨g, 0, none⟩) ns.length c) ns.length xs :: (bf (vs.drop (i + 1)) (ns.drop (i + 1)) ++ fr)) (fun x => x.1 ≤ nd.after.length) (fun x => nd.after.length - x.1) (0, bp nd.after) (by omega) ⟨rfl, rfl, rfl, rfl, rfl, rfl, trivial⟩ (Ent.sel (.tail (.tail (.head)))) ?_
  rintro ⟨k, ys⟩ hk
  simp only at hk ⊢
  refine At.seq (At.region (L.pure Z (bl Z Z Z) (L.nil (At.then (At.seq ?_)))))
  refine aE Z (fun c18 => ?_) (fun c18 => ?_)
  ·
   have hlt2 : k < nd.after.length := by omega
   obtain ⟨g6, rfl⟩ : ∃ g, A6 = some ⟨g, 0, none⟩ := by
    cases A6 with
    | none => have := (hnil6 rfl).1; omega
    | some ad => obtain ⟨g, rfl⟩ := hform6 ad rfl; exact ⟨g, rfl⟩
   refine At.skip (At.then (At.seq (At.block (At.seq (At.region (L.mv Z Z (L.as Z Z (L.nil (At.then (At.region (aI 1 Z Z Z (bd Z Z Z Z (L.mv Z Z (L.pure Z (aT (z := 7) Z Z Z Z hlt) (aI 6 Z Z Z (L.val Z (aa Z Z) (bJ (.tail (.tail (.head))) (by simpa using hxs i _ (Nat.le_refl _) hu)) (L.mv Z Z (L.pure Z (aT (z := 1) Z Z Z Z hlt2) ?_))))))))))))))))))
   refine L.op Z (dZ .head Z Z Z Z (by omega) ?_)
   refine L.nil (an (At.then (At.region (L.pure Z (aS Z Z (dd (by omega))) (L.mv Z Z (L.nil ?_))))))
   exact At.round (k + 1, _) (by simp only; omega) (by simp only; omega) ⟨rfl, rfl, rfl, rfl, rfl, rfl, trivial⟩ (Ent.refl _)
  ·
   refine At.exit (az (ay (ar (At.then (At.region (aI 1 Z Z Z (bd Z Z Z Z (L.mv Z Z (L.pure Z (bn (ps := []) (vs := []) (cs := #[.int .i64 0, .int .i64 0, .int .i64 0, .int .i64 0, .int .i64 0, .int .i64 0, .slice none 0 0]) Z Z Z Z Z) (L.pure Z (aT (z := 7) Z Z Z Z hlt) ?_))))))))))
   refine L.op Z (jU (k := 7) (vs := [.int .i64 0, .int .i64 0, .int .i64 0, .int .i64 0, .int .i64 0, .int .i64 0, .slice none 0 0]) (.tail (.tail (.head))) Z Z Z Z (by simp [Value.oneCell']) (by omega) ?_)
   refine L.nil (an (At.then (At.region (L.pure Z (aS Z Z (dd (by omega))) (L.mv Z Z (L.nil ?_))))))
   exact At.round (i + 1, iD xs (0 + i * 7) [.int .i64 0, .int .i64 0, .int .i64 0, .int .i64 0, .int .i64 0, .int .i64 0, .slice none 0 0]) ⟨by simp only; omega, by simp only [eF]; exact hxl, fun j u hj hu => (by simp only at hj ⊢; rw [ge _ _ _ _ (by simp; omega)]; exact hxs j u (by omega) hu)⟩ (by simp only; omega) ⟨rfl, rfl, rfl, trivial⟩ ((Ent.cons Ent.drop).trans (Ent.perm (List.Perm.swap _ _ _)))
 ·
  exact At.exit (az (ay (ar (bm [] rfl ⟨rfl, rfl⟩ (Ent.drop.trans (Ent.drop.trans (qH _)))))))
open Go Go.RowKit Go.SL
variable {G : Env → Prop}
open Go Go.RowKit Go.Deep
def ChkPost (w : World) (p : Int × Int) (e : Ending) (w' : World) : Prop := e = .returned (.tuple #[.int .i64 p.1, .int .i64 p.2]) ∧ Below w.heap.size w w'
def FreeTo (l : List FK.Node) (g : List Bool) (i m : Nat) (b : Bool) : Prop := b = true ↔ ∀ k ∈ (FK.dg l i).take m, g[k]? = some true
theorem FreeTo.start (l : List FK.Node) (g : List Bool) (i : Nat) : FreeTo l g i 0 true := by simp [FreeTo]
theorem FreeTo.next {l : List FK.Node} {g : List Bool} {i m x : Nat} {b c : Bool} (h : FreeTo l g i m b) (hx : (FK.dg l i)[m]? = some x) (hg : g[x]? = some c) : FreeTo l g i (m + 1) (b && c) := by
 obtain ⟨hm, hx⟩ := List.getElem?_eq_some_iff.1 hx
 unfold FreeTo at *
 rw [List.take_succ_eq_append_getElem hm, hx]
 rw [Bool.and_eq_true, h]
 constructor
 · rintro ⟨h1, h2⟩ k hk
   simp at hk
   rcases hk with hk | rfl
   · exact h1 k hk
   · rw [hg, h2]
 · intro hk
   refine ⟨fun k hk' => hk k (by simp [hk']), ?_⟩
   have := hk x (by simp)
   rw [hg] at this
   exact Option.some.inj this
theorem ChkPost.mk {w w' : World} {p : Int × Int} (hb : Below w.heap.size w w') : ChkPost w p (.returned (.tuple #[.int .i64 p.1, .int .i64 p.2])) w' := ⟨rfl, hb⟩
def LastRel (len : Nat) (l : List Int) (m : Nat) : Prop := FK.EdgesOk len (-1) l ↔ FK.EdgesOk len (if m = 0 then -1 else l.getD (m - 1) 0) (l.drop m)
open Go Go.RowKit Go.Deep
section
variable {l : List Int} {m : Nat} {prev : Int}
theorem LastRel.start (len : Nat) (l : List Int) : LastRel len l 0 := by simp [LastRel]
theorem LastRel.at_ {len : Nat} {x : Int} (h : LastRel len l m) (hx : l[m]? = some x) (hp : 0 < m → l[m - 1]? = some prev) :
 FK.EdgesOk len (-1) l ↔ ((if m = 0 then -1 else prev) < x ∧ x < len ∧ FK.EdgesOk len x (l.drop (m + 1))) := by
 obtain ⟨hm, hx⟩ := List.getElem?_eq_some_iff.1 hx
 unfold LastRel at h
 rw [h, oI hm, hx]
 by_cases h0 : m = 0
 · simp [h0]
 · have := hp (by omega)
   simp [h0, this]
theorem LastRel.next {len : Nat} {x : Int} (h : LastRel len l m) (hx : l[m]? = some x) (hp : 0 < m → l[m - 1]? = some prev) (h1 : (if m = 0 then -1 else prev) < x) (h2 : x < len) : LastRel len l (m + 1) := by
 have := h.at_ hx hp
 unfold LastRel
 rw [this]
 simp [h1, h2, hx]
theorem LastRel.ended {len : Nat} (h : LastRel len l m) (hm : l.length ≤ m) : FK.EdgesOk len (-1) l := by
 unfold LastRel at h
 rw [h, List.drop_of_length_le hm]
 trivial
end
end Go.Proofs.YtmeegfamopaljaaGreatDoor

set_option maxRecDepth 10000
namespace Go.Proofs.YtmeegfamopaljaaGreatDoor
open Go Go.RowKit Go.SL
theorem Fit.enc {f : FK.Flow} (h : FK.Fit f) : ∃ d : Nat, f.deadline = d ∧ d ≤ 1048576 ∧ f.CG.length ≤ 12 ∧ ∀ n ∈ f.CG, FK.cM n ∧ FK.EdgesOk f.CG.length (-1) n.after := by
 obtain ⟨⟨h1, h2⟩, h3, h4⟩ := h.head
 refine ⟨f.deadline.toNat, by omega, by omega, h4, fun n hn => ?_⟩
 obtain ⟨i, hi⟩ := List.getElem?_of_mem hn
 exact h.CG i n (List.getElem?_eq_some_iff.1 hi).1 hi
theorem pP (dl : Int) (ns : List FK.Node) (A : Option Addr) (c : Nat) : Gives Tryz.prog Good 46 [.agg #[.int .i64 dl, .slice A ns.length c]].toArray (fun w => NodesAt w w.heap.size A c ns)
 fun v m => ((FK.chk ⟨dl, ns⟩).1 = 0 ∧ ∃ bv, v = .tuple #[bv, .nilIface] ∧ m = [bO bv (FK.bN ⟨dl, ns⟩)]) ∨ ((FK.chk ⟨dl, ns⟩).1 ≠ 0 ∧ ∃ b, v = .tuple #[.slice none 0 0, .iface 159 (.pointer (some ⟨b, 0, none⟩))] ∧ m = [blk b 164 #[.int .i64 (FK.chk ⟨dl, ns⟩).1, .int .i64 (FK.chk ⟨dl, ns⟩).2]]) := by
 refine Gives.body Tryz.func46 Z Z fun E w0 hE h0 hN => ?_
 refine At.seq (At.region (L.op Z (cb Z Z fun b1 => (L.as Z Z (L.as Z Z (L.nil (At.then (At.seq (At.seq ?_)))))))))
 by_cases hc0 : (FK.chk ⟨dl, ns⟩).1 = 0
 ·
  refine At.region (L.val Z (ao (vs := [.int .i64 dl, .slice A ns.length c]) Z Z Z Z) (aw Z) (L.op Z (fE Z Z Z hE (iz ⟨dl, ns⟩ A c) (jn (.tail (.head)) h0 hN (Nat.le_refl _)) ?_)))
  rintro v m hv
  obtain ⟨rfl, rfl⟩ := hv.ok hc0
  refine aL ?_
  obtain ⟨d, hd, hd1, hl, ho⟩ := Fit.enc (FK.zX hc0)
  simp only at hd hl ho
  subst hd
  refine L.as Z Z (L.nil (At.then (At.seq (At.region (L.mv Z Z (L.pure Z (co Z Z) (L.nil (At.then (aj Z (At.skip (At.then (At.seq (At.region (L.val Z (ao (vs := [.int .i64 d, .slice A ns.length c]) Z Z Z Z) (aw Z) (L.op Z (fE Z Z Z hE (tC d A c ns hd1 hl ho) (jn (.tail (.head)) h0 hN (Nat.le_refl _)) ?_))))))))))))))))
  rintro v m rfl
  exact ai (L.as Z Z (L.as Z Z (L.nil (At.then (At.ret (cU [_] rfl Z Z (.inl ⟨hc0, _, rfl, rfl⟩) (Ent.cons Ent.drop)))))))
 ·
  refine At.region (L.val Z (ao (vs := [.int .i64 dl, .slice A ns.length c]) Z Z Z Z) (aw Z) (L.op Z (fE Z Z Z hE (iz ⟨dl, ns⟩ A c) (jn (.tail (.head)) h0 hN (Nat.le_refl _)) ?_)))
  rintro v m hv
  obtain ⟨b, rfl, rfl⟩ := hv.bad hc0
  exact ai (L.as Z Z (L.nil (At.then (At.seq (At.region (L.mv Z Z (L.pure Z (fv Z Z) (L.nil (At.then (aQ Z (At.seq (At.region (L.mv Z Z (L.as Z Z (L.as Z Z (L.nil (At.then (At.ret (aG (cU [_] rfl Z Z (.inr ⟨hc0, b, rfl, rfl⟩) (Ent.cons Ent.drop)))))))))))))))))))))
def Bz (f : FK.Flow) (v : Value) (m : List HP) : Prop :=
 ((FK.chk f).1 = 0 ∧ ∃ bv, v = .tuple #[bv, .int .i64 0, .int .i64 (-1)] ∧ m = [bO bv (FK.bN f)]) ∨ ((FK.chk f).1 ≠ 0 ∧ v = .tuple #[.slice none 0 0, .int .i64 (FK.chk f).1, .int .i64 (FK.chk f).2] ∧ m = [])
theorem lE (dl : Int) (ns : List FK.Node) (A : Option Addr) (c : Nat) (hfit : lC ns) : Gives Tryz.prog Good 20 [.agg #[.int .i64 dl, .slice A ns.length c]].toArray (fun w => NodesAt w w.heap.size A c ns) (Bz ⟨dl, ns⟩) := by
 refine Gives.body Tryz.func20 Z Z fun E w0 hE h0 hN => ?_
 refine At.seq (At.region (L.op Z (cb Z Z fun b1 => (L.as Z Z (L.as Z Z (L.as Z Z (L.nil (At.then (At.seq (At.region (L.val Z (ao (vs := [.int .i64 dl, .slice A ns.length c]) Z Z Z Z) (aw Z) (L.op Z (fE Z Z Z hE (q9 dl A c ns hfit) (jn (.tail (.head)) h0 hN (Nat.le_refl _)) ?_)))))))))))))
 rintro v m ⟨A', c', rfl, rfl⟩
 refine ai (L.op Z (aN (z := .agg #[.int .i64 0, .slice none 0 0]) Z Z fun b5 => ?_))
 refine L.op Z (aK Z (m := 2) (vs := [.int .i64 dl, .slice A' ns.length c']) Z Z Z Z (by simp [Value.oneCell']) (by simp [Value.cells]) ?_)
 refine L.nil (At.then (At.seq ?_))
 by_cases hc0 : (FK.chk ⟨dl, ns⟩).1 = 0
 ·
  refine At.region (L.val Z (ao (vs := [.int .i64 dl, .slice A' ns.length c']) Z Z Z Z) (aw Z) (L.op Z (fE Z Z Z hE (pP dl ns A' c') (nodesOwn.at (.tail (.head)) hN.i64s) ?_)))
  rintro v m hv
  obtain ⟨bv, rfl, rfl⟩ : ∃ bv, v = .tuple #[bv, .nilIface] ∧ m = [bO bv (FK.bN ⟨dl, ns⟩)] := hv.elim (fun h => h.2) fun h => absurd hc0 h.1
  refine ai (L.mv Z Z (L.ex Z Z Z (L.ex Z Z Z (L.as Z Z (L.as Z Z (L.nil (At.then (At.seq (At.region (L.val Z (ao (vs := [.int .i64 dl, .slice A' ns.length c']) Z Z Z Z) (aw Z) ?_))))))))))
  refine L.op Z (ah Z Z Z hE (pn dl A' c' ns) (Ent.sel (.tail (.tail (.head)))) ?_)
  rintro v m ⟨rfl, rfl⟩
  refine aL (L.nil (At.then (At.seq (At.region (L.mv Z Z ?_)))))
  refine L.op Z (ah Z Z Z hE nF (Ent.refl _) ?_)
  rintro v m ⟨rfl, rfl⟩
  exact aL (L.mv Z Z (L.ex Z Z Z (L.ex Z Z Z (L.as Z Z (L.as Z Z (L.nil (At.then (At.seq (At.region (L.mv Z Z (L.mv Z Z (L.mv Z Z (L.as Z Z (L.as Z Z (L.as Z Z (L.nil (At.then (At.ret (f8 [_] rfl Z Z Z (.inl ⟨hc0, bv, rfl, rfl⟩) (Ent.cons (Ent.drop.trans Ent.drop)))))))))))))))))))))
 ·
  refine At.region (L.val Z (ao (vs := [.int .i64 dl, .slice A' ns.length c']) Z Z Z Z) (aw Z) (L.op Z (fE Z Z Z hE (pP dl ns A' c') (nodesOwn.at (.tail (.head)) hN.i64s) ?_)))
  rintro v m hv
  obtain ⟨b, rfl, rfl⟩ : ∃ b, v = .tuple #[.slice none 0 0, .iface 159 (.pointer (some ⟨b, 0, none⟩))] ∧ m = [blk b 164 #[.int .i64 (FK.chk ⟨dl, ns⟩).1, .int .i64 (FK.chk ⟨dl, ns⟩).2]] := hv.elim (fun h => absurd h.1 hc0) fun h => h.2
  refine ai (L.mv Z Z (L.ex Z Z Z (L.ex Z Z Z (L.as Z Z (L.as Z Z (L.nil (At.then (At.seq (At.region (L.val Z (ao (vs := [.int .i64 dl, .slice A' ns.length c']) Z Z Z Z) (aw Z) ?_))))))))))
  refine L.op Z (ah Z Z Z hE (pn dl A' c' ns) (Ent.sel (.tail (.tail (.head)))) ?_)
  rintro v m ⟨rfl, rfl⟩
  refine aL (L.nil (At.then (At.seq (At.region (L.mv Z Z ?_)))))
  refine L.op Z (ah Z Z Z hE (tV b _ _) (Ent.sel .head) ?_)
  rintro v m ⟨rfl, rfl⟩
  exact ai (L.mv Z Z (L.ex Z Z Z (L.ex Z Z Z (L.as Z Z (L.as Z Z (L.nil (At.then (At.seq (At.region (L.mv Z Z (L.mv Z Z (L.mv Z Z (L.as Z Z (L.as Z Z (L.as Z Z (L.nil (At.then (At.ret (f8 [] rfl Z Z Z (.inr ⟨hc0, rfl, rfl⟩) (Ent.drop.trans (Ent.drop.trans Ent.drop)))))))))))))))))))))
end Go.Proofs.YtmeegfamopaljaaGreatDoor

set_option maxRecDepth 10000
namespace Go.Proofs.YtmeegfamopaljaaGreatDoor
open Go Go.RowKit Go.SL
variable {G : Env → Prop}
section
variable {ns : List FK.Node} {vs : List Value} {nd : FK.Node}
theorem iM {x : Int} (h : i64 x) (d : Nat) (hd : 0 < d) : IntKind.i64.wrap (x.tdiv d) = x.tdiv d := by
 have h1 : (x.tdiv d).natAbs ≤ x.natAbs := by rw [Int.natAbs_tdiv]; exact Nat.div_le_self _ _
 unfold i64 at h
 refine dd ?_
 have h2 : 0 ≤ x → 0 ≤ x.tdiv d := fun h => Int.tdiv_nonneg h (by omega)
 have h3 : x ≤ 0 → x.tdiv d ≤ 0 := fun h => by
  have := Int.tdiv_nonneg (a := -x) (b := d) (by omega) (by omega)
  rw [Int.neg_tdiv] at this
  omega
 constructor <;> omega
theorem fY {x : Int} (h : i64 x) (d : Nat) (hd : 0 < d) : i64 (x.tdiv d) := by
 have h1 : (x.tdiv d).natAbs ≤ x.natAbs := by rw [Int.natAbs_tdiv]; exact Nat.div_le_self _ _
 have h2 : 0 ≤ x → 0 ≤ x.tdiv d := fun h => Int.tdiv_nonneg h (by omega)
 have h3 : x ≤ 0 → x.tdiv d ≤ 0 := fun h => by
  have := Int.tdiv_nonneg (a := -x) (b := d) (by omega) (by omega)
  rw [Int.neg_tdiv] at this
  omega
 unfold i64 at h ⊢
 constructor <;> omega
theorem di (c : Int) (n : Nat) (hc : i64 c) (hn : 0 < n) (hn2 : n < 9223372036854775808) : Does Tryz.prog G 19 [.int .i64 c, .int .i64 n].toArray [] fun v m => ∃ k : Int, v = .int .i64 k ∧ (0 ≤ k ∧ k < n) ∧ m = [] := by
 have hc' := hc
 unfold i64 at hc'
 refine Does.body Tryz.func19 Z Z fun E fr hE => ?_
 refine aL (At.seq (At.region (L.as Z Z (L.nil (At.then ?_)))))
 refine At.seq (At.cut (X := Int) (fun x => [(0, .int .i64 x), (1, .int .i64 n)]) (fun _ => fr) (fun x => 0 ≤ x) ?_ ?_)
 ·
  refine At.seq (At.region (L.mv Z Z (L.pure Z (bl Z Z Z) (L.nil (At.then ?_)))))
  refine aE Z (fun c6 => ?_) (fun c6 => ?_)
  ·
   refine At.region (L.mv Z Z (L.pure Z (aS Z Z (dd (by omega))) (L.pure Z (yA Z (dd (by omega))) (L.as Z Z (L.nil ?_)))))
   exact bb _ (by omega) ⟨rfl, rfl, trivial⟩ (Ent.refl _)
  ·
   refine At.skip ?_
   exact bb c (by omega) ⟨rfl, rfl, trivial⟩ (Ent.refl _)
 intro x hx
 refine At.seq (At.region (L.mv Z Z (L.mv Z Z (L.pure Z (kI Z Z (by omega) Z) (L.as Z Z (L.nil (At.then (At.ret ?_))))))))
 exact aA [] rfl Z ⟨_, rfl, ⟨Int.tmod_nonneg _ hx, Int.tmod_lt_of_pos _ (by omega)⟩, rfl⟩ (Ent.refl _)
theorem rL (A : Option Addr) (c : Nat) (xs : List Int) (i : Nat) (hi : i < 9223372036854775808) : Gives Tryz.prog G 23 [.slice A xs.length c, .int .i64 i].toArray (fun w => IntsAt w w.heap.size A c xs) fun v m => ∃ x : Int, v = .int .i64 x ∧ i64 x ∧ m = [] := by
 refine Gives.body Tryz.func23 Z Z fun E w0 hE h0 hN => ?_
 refine At.seq (At.region (L.as Z Z (L.nil (At.then (At.seq (At.seq (At.region (L.mv Z Z (L.mv Z Z (L.pure Z (aM Z Z) (L.pure Z (bl Z Z Z) (L.nil (At.then ?_)))))))))))))
 refine aE Z (fun c8 => ?_) (fun c8 => ?_)
 ·
  have hlt : i < xs.length := by omega
  obtain ⟨b, o, rfl, hb, hcell⟩ := hN.cells (by omega)
  obtain ⟨x, hx⟩ : ∃ x, xs[i]? = some x := ⟨xs[i], by simp [hlt]⟩
  exact At.seq (At.region (L.mv Z Z (L.mv Z Z (L.pure Z (aT (z := 1) Z Z Z Z hlt) (L.val Z (aa Z Z) (vV .head h0 (by simpa using hcell i x hx)) (L.as Z Z (L.nil (At.then (At.ret (aG (aA [] rfl Z ⟨x, rfl, hN.rng x (List.mem_of_getElem? hx), rfl⟩ (Ent.refl _))))))))))))
 ·
  refine At.skip (At.then (At.seq (At.region (L.as Z Z (L.nil (At.then (At.ret ?_)))))))
  exact aA [] rfl Z ⟨0, rfl, by unfold i64; omega, rfl⟩ (Ent.refl _)
theorem zm (h : FK.Low ns) (h1 : FK.cM nd) (h2 : FK.EdgesOk ns.length (-1) nd.after) : FK.Low (ns ++ [nd]) := fun i n hi => by
 rcases Nat.lt_or_ge i ns.length with hl | hl
 · rw [List.getElem?_append_left hl] at hi
   exact h i n hi
 · have : i = ns.length := by
    have := (List.getElem?_eq_some_iff.1 hi).1
    simp at this; omega
   subst this
   simp at hi
   subst hi
   exact ⟨h1, h2⟩
theorem kg {E : Env} {l r : List HP} {w0 : World} {B : Nat} {A : Option Addr} {c : Nat} {xs : List Int} (s : Sel (old E w0) l r) (h0 : E.is w0) (h : IntsAt w0 B A c xs) (hB : B ≤ w0.heap.size) : ∀ w, Holds E w l → IntsAt w w.heap.size A c xs :=
 rl s h0 fun _ hb => (h.keep (hb.to_same.mono hB)).more (Nat.le_trans hB hb.size)
theorem xg {v' : Value} {u : Value} {b9 b86 b13 b8 o : HP} (h : vs.length = ns.length) :
 Ent (b9 :: row 46 7 v' (ns.length + 1) (aZ ns vs ++ av nd u) :: b86 :: b13 :: aF u nd.after :: b8 :: o :: bf vs ns) (b9 :: row 46 7 v' (ns ++ [nd]).length (aZ (ns ++ [nd]) (vs ++ [u])) :: b8 :: o :: bf (vs ++ [u]) (ns ++ [nd])) := by
 rw [jZ h, iw ns vs nd u h, show (ns ++ [nd]).length = ns.length + 1 by simp]
 refine Ent.cons (Ent.cons (Ent.drop.trans (Ent.drop.trans (Ent.perm ?_))))
 have h1 : ([aF u nd.after] ++ (b8 :: o :: bf vs ns)).Perm ((b8 :: o :: bf vs ns) ++ [aF u nd.after]) := List.perm_append_comm
 simpa using h1
theorem uE {v : Value} {o : HP} (h : vs.length = ns.length) : Ent (row 46 7 v ns.length (aZ ns vs) :: o :: bf vs ns) ([nodesOwn v ns] ++ [o]) := by
 refine (Ent.perm ?_).trans (nodesOwn.ent (r := [o]) h)
 exact List.Perm.cons _ (List.perm_append_comm (l₁ := [o]) (l₂ := bf vs ns))
set_option maxHeartbeats 1000000 in
theorem xh (CG deadline : Int) (hnodes : i64 CG) (hdl : i64 deadline) (A1 A2 : Option Addr) (c1 c2 : Nat) (bits numbers : List Int) :
 Gives Tryz.prog G 13 [.int .i64 CG, .slice A1 bits.length c1, .slice A2 numbers.length c2, .int .i64 deadline].toArray (fun w => IntsAt w w.heap.size A1 c1 bits ∧ IntsAt w w.heap.size A2 c2 numbers)
  fun v m => ∃ (dl : Int) (ns : List FK.Node) (A' : Option Addr) (c' : Nat), FK.span dl 1 ∧ 1 ≤ ns.length ∧ ns.length ≤ 12 ∧ FK.Low ns ∧ v = .agg #[.int .i64 dl, .slice A' ns.length c'] ∧ m = [nodesOwn (.slice A' ns.length c') ns] := by
 refine Gives.body Tryz.func13 Z Z fun E w0 hE h0 hN => ?_
 obtain ⟨hB, hM⟩ := hN
 refine At.seq (At.region (L.op Z (aN (z := .agg #[.int .i64 0, .slice none 0 0]) Z Z fun b8 => (L.nil (At.then (At.seq (At.region (L.mv Z Z ?_))))))))
 refine L.op Z (ah Z Z Z hE (di deadline 2000 hdl (by omega) (by omega)) (Ent.refl _) ?_)
 rintro v m ⟨k, rfl, ⟨hk0, hk1⟩, rfl⟩
 refine aL (L.pure Z (aS Z Z (dd (by omega))) (L.pure Z (bn (ps := [(0, .tmp 18)]) (vs := [.int .i64 (1 + k)]) (cs := #[.int .i64 (1 + k), .slice none 0 0]) Z Z Z Z Z) (L.op Z (aN (z := .agg #[.int .i64 0, .slice none 0 0]) Z Z fun b9 => ?_))))
 refine L.op Z (aK Z (m := 2) (vs := [.int .i64 (1 + k), .slice none 0 0]) Z Z Z Z (by simp [Value.oneCell']) (by simp [Value.cells]) ?_)
 refine L.nil (At.then (At.seq (At.region (L.mv Z Z ?_))))
 refine L.op Z (ah Z Z Z hE (di CG 12 hnodes (by omega) (by omega)) (Ent.refl _) ?_)
 rintro v m ⟨n, rfl, ⟨hn0, hn1⟩, rfl⟩
 refine aL (L.pure Z (aS Z Z (dd (by omega))) (L.as Z Z (L.nil (At.then (At.seq (At.seq (At.region (L.as Z Z (L.nil (At.then (At.block ?_)))))))))))
 refine bk (X := Nat × List FK.Node × List Value × Value) (fun x => [(11, .int .i64 x.1), (10, .int .i64 (1 + n)), (9, .pointer (some ⟨b9, 0, none⟩)), (8, .pointer (some ⟨b8, 0, none⟩)), (1, .slice A1 bits.length c1), (2, .slice A2 numbers.length c2)]) (fun x => blk b9 29 #[.int .i64 (1 + k), x.2.2.2] :: row 46 7 x.2.2.2 x.2.1.length (aZ x.2.1 x.2.2.1) :: blk b8 29 #[.int .i64 0, .slice none 0 0] :: old E w0 :: bf x.2.2.1 x.2.1) (fun x => (x.1 : Int) ≤ 1 + n ∧ x.2.1.length = x.1 ∧ x.2.2.1.length = x.2.1.length ∧ FK.Low x.2.1) (fun x => 13 - x.1) (0, [], [], .slice none 0 0) ⟨by simp; omega, rfl, rfl, fun i nd h => by simp at h⟩ ⟨rfl, rfl, rfl, rfl, rfl, rfl, trivial⟩ (Ent.cons Ent.row0) ?_
 rintro ⟨i, ns, vs, v9⟩ ⟨hi, hni, hvs, hlow⟩
 simp only at hi hni hvs hlow ⊢
 refine At.seq (At.seq (At.region (L.mv Z Z (L.mv Z Z (L.pure Z (bl Z Z Z) (L.nil (At.then ?_)))))))
 refine aE Z (fun c25 => ?_) (fun c25 => ?_)
 ·
  refine At.skip (At.then (At.seq (At.block (At.seq (At.region (L.mv Z Z (L.mv Z Z ?_)))))))
  refine L.op Z (fE Z Z Z hE (rL A2 c2 numbers i (by omega)) (kg (.tail (.tail (.tail (.head)))) h0 hM (Nat.le_refl _)) ?_)
  rintro v m ⟨x, rfl, hx, rfl⟩
  refine aL (L.as Z Z (L.nil (At.then (At.seq (At.region (L.mv Z Z ?_))))))
  refine L.op Z (ah Z Z Z hE (di x 5 hx (by omega) (by omega)) (Ent.refl _) ?_)
  rintro v m ⟨k1, rfl, ⟨h10, h11⟩, rfl⟩
  refine aL (L.pure Z (aS Z Z (dd (by omega))) (L.mv Z Z (L.pure Z (kJ (r := x.tdiv 5) Z Z (by omega) (iM hx 5 (by omega))) ?_)))
  refine L.op Z (ah Z Z Z hE (di _ 30 (fY hx 5 (by omega)) (by omega) (by omega)) (Ent.refl _) ?_)
  rintro v m ⟨k2, rfl, ⟨h20, h21⟩, rfl⟩
  refine aL (L.pure Z (aS Z Z (dd (by omega))) (L.mv Z Z (L.pure Z (kJ (r := x.tdiv 150) Z Z (by omega) (iM hx 150 (by omega))) ?_)))
  refine L.op Z (ah Z Z Z hE (di _ 6 (fY hx 150 (by omega)) (by omega) (by omega)) (Ent.refl _) ?_)
  rintro v m ⟨k3, rfl, ⟨h30, h31⟩, rfl⟩
  refine aL (L.pure Z (aS Z Z (dd (by omega))) (L.mv Z Z (L.pure Z (kJ (r := x.tdiv 7) Z Z (by omega) (iM hx 7 (by omega))) ?_)))
  refine L.op Z (ah Z Z Z hE (di _ 4 (fY hx 7 (by omega)) (by omega) (by omega)) (Ent.refl _) ?_)
  rintro v m ⟨k4, rfl, ⟨h40, h41⟩, rfl⟩
  refine aL (L.pure Z (bn (ps := [(0, .tmp 33), (1, .tmp 37), (3, .tmp 41), (5, .tmp 44)]) (vs := [.int .i64 (1 + k1), .int .i64 (1 + k2), .int .i64 (1 + k3), .int .i64 k4]) (cs := #[.int .i64 (1 + k1), .int .i64 (1 + k2), .int .i64 0, .int .i64 (1 + k3), .int .i64 0, .int .i64 k4, .slice none 0 0]) Z Z Z Z Z) (L.op Z (aN (z := .agg #[.int .i64 0, .int .i64 0, .int .i64 0, .int .i64 0, .int .i64 0, .int .i64 0, .slice none 0 0]) Z Z fun b13 => ?_)))
  refine L.op Z (aK Z (m := 7) (vs := [.int .i64 (1 + k1), .int .i64 (1 + k2), .int .i64 0, .int .i64 (1 + k3), .int .i64 0, .int .i64 k4, .slice none 0 0]) Z Z Z Z (by simp [Value.oneCell']) (by simp [Value.cells]) ?_)
  rw [show fg (Value.agg #[.int .i64 0, .int .i64 0, .int .i64 0, .int .i64 0, .int .i64 0, .int .i64 0, .slice none 0 0]).cells 0 [.int .i64 (1 + k1), .int .i64 (1 + k2), .int .i64 0, .int .i64 (1 + k3), .int .i64 0, .int .i64 k4, .slice none 0 0] = #[.int .i64 (1 + k1), .int .i64 (1 + k2), .int .i64 0, .int .i64 (1 + k3), .int .i64 0, .int .i64 k4, .slice none 0 0] from rfl]
  refine L.nil (At.then (At.seq (Dr.start Z (dP 0 Z Z (ab (off := 3) Z Z) (dL 1 Z Z (aa Z Z) (ag Z) (dP 2 Z Z (ae Z) (dP 3 Z Z (kJ (r := x.tdiv 11) Z Z (by omega) (iM hx 11 (by omega))) ?_)))))))
  refine dR 4 Z Z (ah Z Z Z hE (di _ 20 (fY hx 11 (by omega)) (by omega) (by omega)) (Ent.refl _) ?_)
  rintro v m ⟨k5, rfl, ⟨h50, h51⟩, rfl⟩
  refine aL (dK [true] (Kept.cons (ag Z) Kept.nil) (dP 5 Z Z (aS Z Z (dd (by omega))) (dP 6 Z Z (ab (off := 4) Z Z) ?_)))
  refine dR 7 Z Z (bB Z Z Z Z Z (by first | decide | simp | (simp; omega)) ?_)
  refine dK [false] Kept.nil (dE (At.then ?_))
  refine At.seq (At.cut (X := Int) (fun _ => [(13, .pointer (some ⟨b13, 0, none⟩)), (11, .int .i64 i), (10, .int .i64 (1 + n)), (9, .pointer (some ⟨b9, 0, none⟩)), (8, .pointer (some ⟨b8, 0, none⟩)), (1, .slice A1 bits.length c1), (2, .slice A2 numbers.length c2)]) (fun be => blk b13 46 #[.int .i64 (1 + k1), .int .i64 (1 + k2), .int .i64 be, .int .i64 (1 + k3), .int .i64 (1 + k3 + k5), .int .i64 k4, .slice none 0 0] :: blk b9 29 #[.int .i64 (1 + k), v9] :: row 46 7 v9 ns.length (aZ ns vs) :: blk b8 29 #[.int .i64 0, .slice none 0 0] :: old E w0 :: bf vs ns) (fun be => 0 ≤ be ∧ be ≤ 20) ?_ ?_)
  ·
   refine At.seq (At.region (L.mv Z Z (L.pure Z (kJ (r := x.tdiv 3) Z Z (by omega) (iM hx 3 (by omega))) ?_)))
   refine L.op Z (ah Z Z Z hE (di _ 2 (fY hx 3 (by omega)) (by omega) (by omega)) (Ent.refl _) ?_)
   rintro v m ⟨k6, rfl, _, rfl⟩
   refine aL (L.pure Z (aH Z Z Z) (L.nil (At.then ?_)))
   refine aE Z (fun c56 => ?_) (fun c56 => ?_)
   ·
    refine At.region (L.mv Z Z (L.pure Z (kJ (r := x.tdiv 13) Z Z (by omega) (iM hx 13 (by omega))) ?_))
    refine L.op Z (ah Z Z Z hE (di _ 20 (fY hx 13 (by omega)) (by omega) (by omega)) (Ent.refl _) ?_)
    rintro v m ⟨k7, rfl, ⟨h70, h71⟩, rfl⟩
    refine aL (L.pure Z (aS Z Z (dd (by omega))) (aI 2 Z Z Z ?_))
    refine L.st Z Z Z Z (by first | decide | simp | (simp; omega)) ?_
    refine L.nil ?_
    exact bb (1 + k7) (by omega) ⟨rfl, rfl, rfl, rfl, rfl, rfl, rfl, trivial⟩ (Ent.refl _)
   ·
    refine At.skip ?_
    exact bb 0 (by omega) ⟨rfl, rfl, rfl, rfl, rfl, rfl, rfl, trivial⟩ (Ent.refl _)
  rintro be ⟨hbe0, hbe1⟩
  refine At.seq (At.region (L.mv Z Z (L.mv Z Z ?_)))
  refine L.op Z (fE Z Z Z hE (rL A1 c1 bits i (by omega)) (kg (.tail (.tail (.tail (.tail (.head))))) h0 hB (Nat.le_refl _)) ?_)
  rintro v m ⟨bt, rfl, hbt, rfl⟩
  refine aL (L.as Z Z (L.nil (At.then (At.seq (At.seq (At.region (L.as Z Z (L.nil (At.then (At.block ?_))))))))))
  refine bk (X := Nat × List Int × Value) (fun x => [(15, .int .i64 x.1), (14, .int .i64 bt), (13, .pointer (some ⟨b13, 0, none⟩)), (11, .int .i64 i), (10, .int .i64 (1 + n)), (9, .pointer (some ⟨b9, 0, none⟩)), (8, .pointer (some ⟨b8, 0, none⟩)), (1, .slice A1 bits.length c1), (2, .slice A2 numbers.length c2)]) (fun x => blk b13 46 #[.int .i64 (1 + k1), .int .i64 (1 + k2), .int .i64 be, .int .i64 (1 + k3), .int .i64 (1 + k3 + k5), .int .i64 k4, x.2.2] :: aF x.2.2 x.2.1 :: blk b9 29 #[.int .i64 (1 + k), v9] :: row 46 7 v9 ns.length (aZ ns vs) :: blk b8 29 #[.int .i64 0, .slice none 0 0] :: old E w0 :: bf vs ns) (fun x => x.1 ≤ i ∧ FK.EdgesOk i (-1) x.2.1 ∧ (∀ y ∈ x.2.1, y < x.1) ∧ x.2.1.length ≤ x.1) (fun x => i - x.1) (0, [], .slice none 0 0) ⟨by simp, trivial, by simp, by simp⟩ ⟨rfl, rfl, rfl, rfl, rfl, rfl, rfl, rfl, rfl, trivial⟩ (Ent.cons Ent.row0) ?_
  rintro ⟨j, xs, v⟩ ⟨hj, he, hxs, hxl⟩
  simp only at hj he hxs hxl ⊢
  refine At.seq (At.seq (At.region (L.mv Z Z (L.mv Z Z (L.pure Z (bl Z Z Z) (L.nil (At.then ?_)))))))
  refine aE Z (fun c67 => ?_) (fun c67 => ?_)
  ·
   have hji : j < i := by omega
   refine At.skip (At.then ?_)
   refine At.seq (At.cut (X := List Int × Value) (fun _ => [(15, .int .i64 j), (14, .int .i64 bt), (13, .pointer (some ⟨b13, 0, none⟩)), (11, .int .i64 i), (10, .int .i64 (1 + n)), (9, .pointer (some ⟨b9, 0, none⟩)), (8, .pointer (some ⟨b8, 0, none⟩)), (1, .slice A1 bits.length c1), (2, .slice A2 numbers.length c2)]) (fun x => blk b13 46 #[.int .i64 (1 + k1), .int .i64 (1 + k2), .int .i64 be, .int .i64 (1 + k3), .int .i64 (1 + k3 + k5), .int .i64 k4, x.2] :: aF x.2 x.1 :: blk b9 29 #[.int .i64 (1 + k), v9] :: row 46 7 v9 ns.length (aZ ns vs) :: blk b8 29 #[.int .i64 0, .slice none 0 0] :: old E w0 :: bf vs ns) (fun x => FK.EdgesOk i (-1) x.1 ∧ (∀ y ∈ x.1, y < j + 1) ∧ x.1.length ≤ j + 1) ?_ ?_)
   ·
    refine At.block (At.seq (At.region (L.mv Z Z ?_)))
    refine L.op Z (ah Z Z Z hE (di bt 1048576 hbt (by omega) (by omega)) (Ent.refl _) ?_)
    rintro v m ⟨q, rfl, _, rfl⟩
    refine aL (L.mv Z Z (L.pure Z (bz Z Z Z (wu64 (by omega))) (L.pure Z (eZ Z Z (by omega) Z) (L.pure Z (tN Z Z Z) (L.pure Z (aH Z Z Z) (L.nil (At.then ?_)))))))
    refine aE Z (fun c76 => ?_) (fun c76 => ?_)
    ·
     refine At.region (aI 6 Z Z Z (bd Z Z Z Z (L.mv Z Z (L.op Z (da (z := .int .i64 0) Z Z Z Z Z Z fun b80 => ?_)))))
     refine L.op rfl (cm rfl rfl fF rfl (by omega) rfl rfl (.tail (.tail (.head))) (news := [.int .i64 j]) rfl (fun h => by cases h) (fN (fun j u h => by simpa using h)) (by simp [Value.oneCell']) (by unfold maxLen; omega) (by omega) fun v' hv' => ?_)
     refine aC .head ?_
     rintro A7 c7 rfl _ _ _ _ _
     refine aI 6 Z Z Z ?_
     refine L.st Z Z Z Z (by first | decide | simp | (simp; omega)) ?_
     refine L.nil (an ?_)
     exact bb (xs ++ [(j : Int)], .slice A7 (xs.length + 1) c7) ⟨he.snoc hxs (by omega) (by omega), fun y hy => (by rcases List.mem_append.1 hy with h | h; have := hxs y h; omega; simp at h; omega), by simp; omega⟩ ⟨rfl, rfl, rfl, rfl, rfl, rfl, rfl, rfl, rfl, trivial⟩ (by rw [mH]; exact Ent.cons (Ent.cons Ent.drop))
    ·
     refine At.skip (an ?_)
     exact bb (xs, v) ⟨he, fun y hy => (by have := hxs y hy; omega), by simp only; omega⟩ ⟨rfl, rfl, rfl, rfl, rfl, rfl, rfl, rfl, rfl, trivial⟩ (Ent.refl _)
   rintro ⟨ys, u⟩ ⟨hye, hys, hyl⟩
   simp only at hye hys hyl ⊢
   refine At.region (L.mv Z Z (L.pure Z (aS Z Z (dd (by omega))) (L.as Z Z (L.nil ?_))))
   exact At.round (j + 1, ys, u) ⟨by simp only; omega, hye, by simpa using hys, hyl⟩ (by simp only; omega) ⟨rfl, rfl, rfl, rfl, rfl, rfl, rfl, rfl, rfl, trivial⟩ (Ent.refl _)
  ·
   refine aC (.tail (.head)) ?_
   rintro A8 c8 rfl _ _ _ _ _
   refine At.exit (az (ay (ar (At.then (At.region (aI 1 Z Z Z (bd Z Z Z Z (L.val Z (ao (vs := av ⟨1 + k1, 1 + k2, be, 1 + k3, 1 + k3 + k5, k4, xs⟩ (.slice A8 xs.length c8)) Z Z Z Z) (aw Z) ?_))))))))
   refine L.op Z (dF (m := 1) (z := .agg #[.int .i64 0, .int .i64 0, .int .i64 0, .int .i64 0, .int .i64 0, .int .i64 0, .slice none 0 0]) (size := 7) (ps := [(0, .tmp 85)]) (vs := [.agg (av ⟨1 + k1, 1 + k2, be, 1 + k3, 1 + k3 + k5, k4, xs⟩ (.slice A8 xs.length c8)).toArray]) (cs := (av ⟨1 + k1, 1 + k2, be, 1 + k3, 1 + k3 + k5, k4, xs⟩ (.slice A8 xs.length c8)).toArray) Z Z Z Z (by omega) (by omega) Z (l8 _ _) fun b86 => ?_)
   refine L.op rfl (cm rfl rfl nN rfl (by omega) rfl rfl (.tail (.tail (.tail (.tail (.head))))) (news := av ⟨1 + k1, 1 + k2, be, 1 + k3, 1 + k3 + k5, k4, xs⟩ (.slice A8 xs.length c8)) rfl (fun h => by cases h) (fN (fun j u h => by simpa using h)) (by simp [av, Value.oneCell']) (by unfold maxLen; omega) (by omega) fun v' hv' => ?_)
   refine aC .head ?_
   rintro A9 c9 rfl _ _ _ _ _
   refine aI 1 Z Z Z ?_
   refine L.st Z Z Z Z (by first | decide | simp | (simp; omega)) ?_
   refine L.nil (an (At.then (At.region (L.mv Z Z (L.pure Z (aS Z Z (dd (by omega))) (L.as Z Z (L.nil ?_)))))))
   exact At.round (i + 1, ns ++ [⟨1 + k1, 1 + k2, be, 1 + k3, 1 + k3 + k5, k4, xs⟩], vs ++ [.slice A8 xs.length c8], .slice A9 (ns.length + 1) c9) ⟨by simp only; omega, by simp [hni], by simp [hvs], zm hlow (by unfold FK.cM FK.span; simp only; omega) (by rw [hni]; exact he)⟩ (by simp only; omega) ⟨rfl, rfl, rfl, rfl, rfl, rfl, trivial⟩ (xg hvs)
 ·
  refine aC (.tail (.head)) ?_
  rintro A9 c9 rfl _ _ _ _ _
  refine At.exit (az (ay (ar (At.then (At.seq (At.region (L.val Z (ao (vs := [.int .i64 (1 + k), .slice A9 ns.length c9]) Z Z Z Z) (aw Z) ?_)))))))
  refine L.op Z (aK Z (m := 2) (vs := [.int .i64 (1 + k), .slice A9 ns.length c9]) Z Z Z Z (by simp [Value.oneCell']) (by simp) ?_)
  refine L.nil (At.then (At.ret ?_))
  exact nl [_] rfl (bZ (vs := [.int .i64 (1 + k), .slice A9 ns.length c9]) Z Z Z Z (aw Z)) ⟨1 + k, ns, A9, c9, by unfold FK.span; omega, by omega, by omega, hlow, rfl, rfl⟩ (Ent.drop.trans (Ent.drop.trans (uE hvs)))
end
end Go.Proofs.YtmeegfamopaljaaGreatDoor
