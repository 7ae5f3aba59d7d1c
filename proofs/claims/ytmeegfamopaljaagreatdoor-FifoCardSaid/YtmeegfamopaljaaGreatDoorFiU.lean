/- A disk that goes down: what it was told. -/
import Derived.Test.YtmeegfamopaljaaGreatDoorFiT
import Derived.Test.YtmeegfamopaljaaGreatDoorFiI
import Derived.Laws.IdiomStrings
namespace Go.Proofs.YtmeegfamopaljaaGreatDoor
open Go Go.RowKit Go.SL
variable {G : Env → Prop}
abbrev errV (e : Int) : Value := if e = 0 then .nilIface else .iface 48 (.int .i64 e)
abbrev strV (s : ByteArray) : Value := .string s
theorem strKey : KeyK Tryz.prog 9 ByteArray strV := keyStr (by kernel_rfl)
def pool (P : List (Nat × ByteArray)) : HP := HP.all (P.map fun c => blk c.1 9 #[strV c.2])
inductive Names (P : List (Nat × ByteArray)) : List (ByteArray × Nat) → FK.Fls → Prop where
  | nil : Names P [] []
  | cons {M : List (ByteArray × Nat)} {fs : FK.Fls} {n s : ByteArray} {b : Nat} (h : (b, s) ∈ P) (t : Names P M fs) : Names P ((n, b) :: M) ((n, s) :: fs)
theorem Names.mono {P P' : List (Nat × ByteArray)} (h : ∀ c ∈ P, c ∈ P') : ∀ {M : List (ByteArray × Nat)} {fs : FK.Fls}, Names P M fs → Names P' M fs
  | _, _, .nil => .nil
  | _, _, .cons a t => .cons (h _ a) (t.mono h)
theorem Names.get {P : List (Nat × ByteArray)} (n : ByteArray) : ∀ {M : List (ByteArray × Nat)} {fs : FK.Fls}, Names P M fs → (FK.kget M n = none ∧ FK.kget fs n = none) ∨ ∃ b s, FK.kget M n = some b ∧ FK.kget fs n = some s ∧ (b, s) ∈ P
  | _, _, .nil => .inl ⟨rfl, rfl⟩
  | _, _, .cons (M := M) (fs := fs) (n := k) (s := s) (b := b) a t => by
    have ih := t.get n
    unfold FK.kget at ih ⊢
    rw [List.find?_cons, List.find?_cons]
    cases hk : k == n with
    | true => exact .inr ⟨b, s, by simp, by simp, a⟩
    | false => exact ih
theorem Names.idx {P : List (Nat × ByteArray)} (n : ByteArray) : ∀ {M : List (ByteArray × Nat)} {fs : FK.Fls}, Names P M fs → M.findIdx? (·.1 == n) = fs.findIdx? (·.1 == n)
  | _, _, .nil => rfl
  | _, _, .cons _ t => by
    rw [List.findIdx?_cons, List.findIdx?_cons, t.idx n]
theorem Names.set {P : List (Nat × ByteArray)} {n s : ByteArray} {b : Nat} (h : (b, s) ∈ P) : ∀ {M : List (ByteArray × Nat)} {fs : FK.Fls} (j : Nat), Names P M fs → Names P (M.set j (n, b)) (fs.set j (n, s))
  | _, _, _, .nil => .nil
  | _, _, 0, .cons _ t => .cons h t
  | _, _, j + 1, .cons a t => .cons a (t.set h j)
theorem Names.snoc {P : List (Nat × ByteArray)} {n s : ByteArray} {b : Nat} (h : (b, s) ∈ P) : ∀ {M : List (ByteArray × Nat)} {fs : FK.Fls}, Names P M fs → Names P (M ++ [(n, b)]) (fs ++ [(n, s)])
  | _, _, .nil => .cons h .nil
  | _, _, .cons a t => .cons a (t.snoc h)
theorem Names.put {P : List (Nat × ByteArray)} {n s : ByteArray} {b : Nat} {M : List (ByteArray × Nat)} {fs : FK.Fls} (t : Names P M fs) (h : (b, s) ∈ P) : Names P (FK.kput M n b) (FK.kput fs n s) := by
  unfold FK.kput
  rw [t.idx n]
  cases fs.findIdx? (·.1 == n) with
  | none => exact t.snoc h
  | some j => exact t.set h j
theorem Names.del {P : List (Nat × ByteArray)} (n : ByteArray) : ∀ {M : List (ByteArray × Nat)} {fs : FK.Fls}, Names P M fs → Names P (M.eraseP (·.1 == n)) (fs.eraseP (·.1 == n))
  | _, _, .nil => .nil
  | _, _, .cons (n := k) a t => by
    rw [List.eraseP_cons, List.eraseP_cons]
    cases k == n with
    | true => exact t
    | false => exact .cons a (t.del n)
abbrev ptrM (M : List (ByteArray × Nat)) : List (ByteArray × Value) := M.map fun x => (x.1, ptr x.2)
def filesAt (mb : Nat) (P : List (Nat × ByteArray)) (fs : FK.Fls) : HP := HP.ex fun M : List (ByteArray × Nat) => HP.all [HP.pure (Names P M fs), vmap strV mb (ptrM M)]
abbrev opL (o : FK.DOp) : List Value := [.int .i64 o.kind, strV o.name, strV o.data]
abbrev opsV (l : List FK.DOp) : List Value := l.flatMap opL
theorem ptrM_get (M : List (ByteArray × Nat)) (n : ByteArray) : vassoc (ptrM M) n = (FK.kget M n).map ptr := by
  unfold vassoc FK.kget
  rw [List.find?_map]
  show Option.map _ (Option.map _ (M.find? (·.1 == n))) = _
  cases M.find? (·.1 == n) <;> rfl
theorem ptrM_put (M : List (ByteArray × Nat)) (n : ByteArray) (b : Nat) : FK.kput (ptrM M) n (ptr b) = ptrM (FK.kput M n b) := FK.kput_mapV M (fun b => ptr b) n b
theorem ptrM_del (M : List (ByteArray × Nat)) (n : ByteArray) : (ptrM M).eraseP (·.1 == n) = ptrM (M.eraseP (·.1 == n)) := by
  unfold ptrM
  rw [List.eraseP_map]
  rfl
section
variable {E : Env} {l r : List HP}
theorem poolCell {P : List (Nat × ByteArray)} {b : Nat} {s : ByteArray} (h : (b, s) ∈ P) (S : Sel (pool P) l r) : ∀ w, Holds E w l → CellIs ⟨b, 0, none⟩ (strV s) w := fun w hw => by
  obtain ⟨F1, _, _, _, _, hp, _⟩ := (hw.sel S).star
  have hp' : Star w (P.map fun c : Nat × ByteArray => blk c.1 9 #[strV c.2]) F1 := hp
  have h2 : (blk b 9 #[strV s]).sat w F1 := Star.mem hp' (List.mem_map.2 ⟨(b, s), h, rfl⟩)
  have := h2.2
  simp [CellIs, World.cell?, this]
theorem Ent.pooled {P : List (Nat × ByteArray)} {b : Nat} {s : ByteArray} : Ent (blk b 9 #[strV s] :: pool P :: r) (pool ((b, s) :: P) :: r) := by
  refine (Ent.cons (Ent.unall (m := P.map fun c => blk c.1 9 #[strV c.2]))).trans ?_
  exact Ent.all (m := ((b, s) :: P).map fun c => blk c.1 9 #[strV c.2])
theorem Ent.closeFiles {P : List (Nat × ByteArray)} {mb : Nat} {fs : FK.Fls} {M : List (ByteArray × Nat)} (h : Names P M fs) : Ent (vmap strV mb (ptrM M) :: r) (filesAt mb P fs :: r) :=
  (Ent.pure h).trans ((Ent.all (m := [HP.pure (Names P M fs), vmap strV mb (ptrM M)])).trans (Ent.ex (f := fun M : List (ByteArray × Nat) => HP.all [HP.pure (Names P M fs), vmap strV mb (ptrM M)]) M))
theorem Ent.putFiles {P : List (Nat × ByteArray)} {mb : Nat} {fs : FK.Fls} {M : List (ByteArray × Nat)} {n s : ByteArray} {b : Nat} (h : Names P M fs) : Ent (vmap strV mb (FK.kput (ptrM M) n (ptr b)) :: blk b 9 #[strV s] :: pool P :: r) (filesAt mb ((b, s) :: P) (FK.kput fs n s) :: pool ((b, s) :: P) :: r) := by
  rw [ptrM_put]
  exact (Ent.cons Ent.pooled).trans (Ent.closeFiles ((h.mono fun c hc => .tail _ hc).put (.head _)))
theorem Ent.moreFiles {P P' : List (Nat × ByteArray)} {mb : Nat} {fs : FK.Fls} (h : ∀ c ∈ P, c ∈ P') : Ent (filesAt mb P fs :: r) (filesAt mb P' fs :: r) := fun w F ⟨F1, F2, h1, h2, hd, ⟨M, hp⟩, hl⟩ => by
  have hn : Names P M fs := Star.mem (p := HP.pure (Names P M fs)) (l := [HP.pure (Names P M fs), vmap strV mb (ptrM M)]) hp (by simp)
  obtain ⟨G1, G2, g1, g2, gd, _, g4⟩ := hp
  exact ⟨F1, F2, h1, h2, hd, ⟨M, G1, G2, g1, g2, gd, hn.mono h, g4⟩, hl⟩
end
theorem ev_addStr {P : Program} {ts : List (Nat × Value)} {t t' : TypeId} {x y : Operand} {a b : ByteArray} (hx : ev ts x = some (.string a)) (hy : ev ts y = some (.string b)) (hl : a.size + b.size ≤ 9223372036854775807) : Ev P ts (.binOp .add t x y t') (.string (a ++ b)) Any := by
  intro ac w _ _ _ _ _ kn _
  refine exec_bin (kn.eval hx) (kn.eval hy) (by simp [eqGuard]) ?_
  have : ¬ (((a.size + b.size : Nat) : Int) > IntKind.i64.max) := by
    rw [show IntKind.i64.max = 9223372036854775807 from rfl]
    omega
  simp only [binOp, Op.stringOp]
  rw [if_neg this]
  rfl
structure DA where
  md : Nat
  mn : Nat
  pv : Value
  P : List (Nat × ByteArray)
abbrev dskC (q : DA) (σ : FK.Dsk) : Array Value := #[.map (some q.md), .map (some q.mn), q.pv, .int .i64 σ.left, .int .i64 σ.full, .bool σ.down]
abbrev diskL (d : Nat) (q : DA) (σ : FK.Dsk) : List HP := [blk d 131 (dskC q σ), filesAt q.md q.P σ.dur, filesAt q.mn q.P σ.now, pool q.P, row 211 3 q.pv σ.pend.length (opsV σ.pend)]
def diskAt (d : Nat) (σ : FK.Dsk) : HP := HP.ex fun q : DA => HP.all (diskL d q σ)
abbrev diskR (d : Nat) (q : DA) (σ : FK.Dsk) (r : List HP) : List HP := blk d 131 (dskC q σ) :: filesAt q.md q.P σ.dur :: filesAt q.mn q.P σ.now :: pool q.P :: row 211 3 q.pv σ.pend.length (opsV σ.pend) :: r
theorem Ent.closeDisk {d : Nat} (q : DA) (σ : FK.Dsk) {r : List HP} : Ent (diskL d q σ ++ r) (diskAt d σ :: r) := Ent.all.trans (Ent.ex (f := fun q : DA => HP.all (diskL d q σ)) q)
set_option maxRecDepth 10000 in
theorem writes_does {d : Nat} {σ : FK.Dsk} : Does Tryz.prog G 335 [ptr d].toArray [diskAt d σ] fun v m => v = errV σ.writes.2 ∧ m = [diskAt d σ.writes.1] := by
  obtain ⟨dur, now, pend, left, full, down⟩ := σ
  refine Does.body Tryz.func335 rfl rfl fun E fr hE => ?_
  refine At.app1 ?_
  refine At.ex .head fun q => At.openAll ?_
  refine At.ent (l' := diskR d q ⟨dur, now, pend, left, full, down⟩ fr) (Ent.refl _) ?_
  refine At.seq ?_
  refine At.region ?_
  refine L.as rfl rfl ?_
  refine L.nil ?_
  refine At.then ?_
  refine At.seq ?_
  refine At.seq ?_
  refine At.region ?_
  refine L.mv rfl rfl ?_
  refine L.nc rfl rfl ?_
  refine L.fa 5 rfl rfl rfl ?_
  refine L.bool rfl (ev_load1 rfl rfl) (cellIs rfl) fun c6 e6 => ?_
  refine L.mv rfl rfl ?_
  refine L.abs c6 (by rfl) ?_
  refine L.g rfl rfl (fun _ => rfl) (ev_move rfl) (fun _ _ => trivial) ?_
  refine L.abs c6 (by rfl) ?_
  refine L.g rfl rfl (fun _ => rfl) (ev_nil rfl) (fun _ _ => trivial) ?_
  refine L.abs c6 (by rfl) ?_
  refine L.g rfl rfl (fun _ => rfl) (ev_field (off := 3) rfl rfl) (fun _ _ => trivial) ?_
  refine L.abs c6 (by rfl) ?_
  refine L.g rfl rfl (fun _ => rfl) (ev_load1 rfl rfl) (cellIs rfl) ?_
  refine L.abs c6 (by rfl) ?_
  refine L.g rfl rfl (fun _ => rfl) (ev_eql rfl rfl rfl) (fun _ _ => trivial) ?_
  refine L.bool rfl (ev_pickOr rfl rfl rfl) (fun _ _ => trivial) fun c13 e13 => ?_
  refine L.nil ?_
  refine At.then ?_
  refine At.cond rfl (fun h13 => ?_) (fun h13 => ?_)
  ·
    have hc : down = true ∨ left = 0 := by rw [e13, e6] at h13; simpa using h13
    have hw : FK.Dsk.writes ⟨dur, now, pend, left, full, down⟩ = (⟨dur, now, pend, left, full, true⟩, 11) := by unfold FK.Dsk.writes; rw [if_pos hc]
    rw [hw]
    refine At.seq ?_
    refine At.region ?_
    refine L.mv rfl rfl ?_
    refine L.nc rfl rfl ?_
    refine L.fa 5 rfl rfl rfl ?_
    refine L.st rfl rfl rfl rfl (by first | decide | simp | (simp; omega)) ?_
    refine L.nil ?_
    refine At.then ?_
    refine At.seq ?_
    refine At.region ?_
    refine L.pure rfl (ev_iface rfl rfl rfl) ?_
    refine L.as rfl rfl ?_
    refine L.nil ?_
    refine At.then ?_
    refine At.ret ?_
    refine At.thenRet ?_
    refine At.ret1 [_] rfl rfl ⟨rfl, rfl⟩ ?_
    exact (Ent.closeDisk (d := d) q ⟨dur, now, pend, left, full, true⟩)
  ·
    have hc : ¬ (down = true ∨ left = 0) := by rw [e13, e6] at h13; simpa using h13
    refine At.skip ?_
    refine At.then ?_
    refine At.seq ?_
    refine At.region ?_
    refine L.mv rfl rfl ?_
    refine L.nc rfl rfl ?_
    refine L.fa 3 rfl rfl rfl ?_
    refine L.ld rfl rfl rfl rfl ?_
    refine L.pure rfl (ev_sub rfl rfl rfl) ?_
    refine L.nc rfl rfl ?_
    refine L.fa 3 rfl rfl rfl ?_
    refine L.st rfl rfl rfl rfl (by first | decide | simp | (simp; omega)) ?_
    refine L.nil ?_
    refine At.then ?_
    refine At.seq ?_
    refine At.seq ?_
    refine At.region ?_
    refine L.mv rfl rfl ?_
    refine L.nc rfl rfl ?_
    refine L.fa 4 rfl rfl rfl ?_
    refine L.ld rfl rfl rfl rfl ?_
    refine L.pure rfl (ev_eql rfl rfl rfl) ?_
    refine L.nil ?_
    refine At.then ?_
    refine At.condD rfl (fun c29 => ?_) (fun c29 => ?_)
    ·
      have hw : FK.Dsk.writes ⟨dur, now, pend, left, full, down⟩ = (⟨dur, now, pend, IntKind.i64.wrap (left - 1), -1, down⟩, 10) := by unfold FK.Dsk.writes; rw [if_neg hc, if_pos c29]
      rw [hw]
      refine At.seq ?_
      refine At.region ?_
      refine L.mv rfl rfl ?_
      refine L.nc rfl rfl ?_
      refine L.fa 4 rfl rfl rfl ?_
      refine L.st rfl rfl rfl rfl (by first | decide | simp | (simp; omega)) ?_
      refine L.nil ?_
      refine At.then ?_
      refine At.seq ?_
      refine At.region ?_
      refine L.pure rfl (ev_iface rfl rfl rfl) ?_
      refine L.as rfl rfl ?_
      refine L.nil ?_
      refine At.then ?_
      refine At.ret ?_
      refine At.thenRet ?_
      refine At.ret1 [_] rfl rfl ⟨rfl, rfl⟩ ?_
      exact (Ent.closeDisk (d := d) q ⟨dur, now, pend, IntKind.i64.wrap (left - 1), -1, down⟩)
    ·
      have hw : FK.Dsk.writes ⟨dur, now, pend, left, full, down⟩ = (⟨dur, now, pend, IntKind.i64.wrap (left - 1), IntKind.i64.wrap (full - 1), down⟩, 0) := by unfold FK.Dsk.writes; rw [if_neg hc, if_neg c29]
      rw [hw]
      refine At.skip ?_
      refine At.then ?_
      refine At.seq ?_
      refine At.region ?_
      refine L.mv rfl rfl ?_
      refine L.nc rfl rfl ?_
      refine L.fa 4 rfl rfl rfl ?_
      refine L.ld rfl rfl rfl rfl ?_
      refine L.pure rfl (ev_sub rfl rfl rfl) ?_
      refine L.nc rfl rfl ?_
      refine L.fa 4 rfl rfl rfl ?_
      refine L.st rfl rfl rfl rfl (by first | decide | simp | (simp; omega)) ?_
      refine L.nil ?_
      refine At.then ?_
      refine At.seq ?_
      refine At.region ?_
      refine L.as rfl rfl ?_
      refine L.nil ?_
      refine At.then ?_
      refine At.ret ?_
      refine At.ret1 [_] rfl rfl ⟨rfl, rfl⟩ ?_
      exact (Ent.closeDisk (d := d) q ⟨dur, now, pend, IntKind.i64.wrap (left - 1), IntKind.i64.wrap (full - 1), down⟩)
set_option maxRecDepth 10000 in
theorem do_does {mb : Nat} {P : List (Nat × ByteArray)} {fs : FK.Fls} {o : FK.DOp} (hsz : o.kind = 2 → ∀ w, FK.kget fs o.name = some w → w.size + o.data.size ≤ 9223372036854775807) : Does Tryz.prog G 131 [.map (some mb), .agg (opL o).toArray].toArray [filesAt mb P fs, pool P] fun v m => v = .tuple #[] ∧ ∃ P', (∀ c ∈ P, c ∈ P') ∧ m = [filesAt mb P' (FK.doOp fs o), pool P'] := by
  have hmono : ∀ b s, ∀ c ∈ P, c ∈ (b, s) :: P := fun b s c hc => .tail _ hc
  refine Does.body Tryz.func131 rfl rfl fun E fr hE => ?_
  refine At.app2 ?_
  refine At.ex .head fun M => At.openAll ?_
  refine At.ent (l' := HP.pure (Names P M fs) :: vmap strV mb (ptrM M) :: pool P :: fr) (Ent.refl _) ?_
  refine At.pure .head fun hN => ?_
  refine At.seq ?_
  refine At.region ?_
  refine L.op rfl (o_box rfl rfl fun b3 => ?_)
  refine L.nil ?_
  refine At.then ?_
  refine At.seq ?_
  refine At.region ?_
  refine L.fa 2 rfl rfl rfl ?_
  refine L.ld rfl rfl rfl rfl ?_
  refine L.op rfl (o_alloc (z := .string ⟨#[]⟩) rfl rfl fun b4 => ?_)
  refine L.st rfl rfl rfl rfl (by first | decide | simp | (simp; omega)) ?_
  refine L.nil ?_
  refine At.then ?_
  refine At.seq ?_
  refine At.blkAs b4 #[strV o.data] rfl ?_
  refine At.region ?_
  refine L.fa 0 rfl rfl rfl ?_
  refine L.ld rfl rfl rfl rfl ?_
  refine L.nil ?_
  refine At.then ?_
  refine At.block ?_
  refine At.seq ?_
  refine At.region ?_
  refine L.pure rfl (ev_eql rfl rfl rfl) ?_
  refine L.as rfl rfl ?_
  refine L.nil ?_
  refine At.then ?_
  refine At.condD rfl (fun c11 => ?_) (fun c11 => ?_)
  ·
    have hdo : FK.doOp fs o = FK.kput fs o.name (match FK.kget fs o.name with | some w => w ++ o.data | none => o.data) := by unfold FK.doOp; rw [if_pos c11]; rfl
    rw [hdo]
    refine At.seq ?_
    refine At.seq ?_
    by_cases HG : ∃ b s, FK.kget M o.name = some b ∧ FK.kget fs o.name = some s ∧ (b, s) ∈ P
    ·
      obtain ⟨ob, os, hM, hF, hP⟩ := HG
      rw [hF]
      refine At.region ?_
      refine L.mv rfl rfl ?_
      refine L.fa 1 rfl rfl rfl ?_
      refine L.ld rfl rfl rfl rfl ?_
      refine L.val rfl (ev_vlookY (a := o.name) (v := ptr ob) rfl strKey rfl rfl (by rw [ptrM_get, hM]; rfl)) (vmapIs (b := mb) (m := ptrM M) (.tail (.tail .head))) ?_
      refine L.mv rfl rfl ?_
      refine L.ex rfl rfl rfl ?_
      refine L.ex rfl rfl rfl ?_
      refine L.as rfl rfl ?_
      refine L.as rfl rfl ?_
      refine L.nil ?_
      refine At.then ?_
      refine At.seq ?_
      refine At.region ?_
      refine L.mv rfl rfl ?_
      refine L.nil ?_
      refine At.then ?_
      refine At.condT rfl ?_
      refine Dr.start rfl ?_
      refine Dr.p 0 rfl rfl (by kernel_rfl) (ev_move rfl) ?_
      refine Dr.p 1 rfl rfl (by kernel_rfl) (ev_nil rfl) ?_
      refine Dr.ld 2 rfl rfl (by kernel_rfl) (ev_load1 (v := strV os) rfl rfl) (poolCell hP (.tail (.tail (.tail .head)))) ?_
      refine Dr.ld 3 rfl rfl (by kernel_rfl) (ev_load1 rfl rfl) (cellIs rfl) ?_
      refine Dr.p 4 rfl rfl (by kernel_rfl) (ev_addStr rfl rfl (hsz c11 os hF)) ?_
      refine Dr.run 5 rfl rfl (by kernel_rfl) (o_store1 rfl rfl rfl rfl rfl (by first | decide | simp | (simp; omega)) ?_)
      refine Dr.kept [false, false] (by kernel_rfl) Kept.nil ?_
      refine Dr.done (by kernel_rfl) ?_
      refine At.then ?_
      refine At.blkAs b4 #[strV (os ++ o.data)] rfl ?_
      refine At.region ?_
      refine L.mv rfl rfl ?_
      refine L.fa 1 rfl rfl rfl ?_
      refine L.ld rfl rfl rfl rfl ?_
      refine L.op rfl (o_vput rfl rfl strKey rfl rfl rfl (.tail (.tail .head)) ?_)
      refine L.nil ?_
      refine At.inBlock ?_
      exact At.end0 [_, _] rfl ⟨rfl, (b4, os ++ o.data) :: P, hmono _ _, rfl⟩ ((Ent.sel3 .head .head (.tail .head)).trans ((Ent.putFiles hN).trans (Ent.cons (Ent.cons Ent.drop))))
    ·
      obtain ⟨hM, hF⟩ : FK.kget M o.name = none ∧ FK.kget fs o.name = none := by rcases hN.get o.name with h | h; exact h; exact absurd h HG
      rw [hF]
      refine At.region ?_
      refine L.mv rfl rfl ?_
      refine L.fa 1 rfl rfl rfl ?_
      refine L.ld rfl rfl rfl rfl ?_
      refine L.val rfl (ev_vlookN (m := ptrM M) (a := o.name) rfl strKey rfl rfl rfl (by rw [ptrM_get, hM]; rfl)) (vmapIs (b := mb) (m := ptrM M) (.tail (.tail .head))) ?_
      refine L.mv rfl rfl ?_
      refine L.ex rfl rfl rfl ?_
      refine L.ex rfl rfl rfl ?_
      refine L.as rfl rfl ?_
      refine L.as rfl rfl ?_
      refine L.nil ?_
      refine At.then ?_
      refine At.seq ?_
      refine At.region ?_
      refine L.mv rfl rfl ?_
      refine L.nil ?_
      refine At.then ?_
      refine At.condF rfl ?_
      refine At.skip ?_
      refine At.then ?_
      refine At.region ?_
      refine L.mv rfl rfl ?_
      refine L.fa 1 rfl rfl rfl ?_
      refine L.ld rfl rfl rfl rfl ?_
      refine L.op rfl (o_vput rfl rfl strKey rfl rfl rfl (.tail (.tail .head)) ?_)
      refine L.nil ?_
      refine At.inBlock ?_
      exact At.end0 [_, _] rfl ⟨rfl, (b4, o.data) :: P, hmono _ _, rfl⟩ ((Ent.sel3 .head .head (.tail .head)).trans ((Ent.putFiles hN).trans (Ent.cons (Ent.cons Ent.drop))))
  ·
    refine At.seq ?_
    refine At.region ?_
    refine L.pure rfl (ev_eql rfl rfl rfl) ?_
    refine L.as rfl rfl ?_
    refine L.nil ?_
    refine At.then ?_
    refine At.condD rfl (fun c29 => ?_) (fun c29 => ?_)
    ·
      have hdo : FK.doOp fs o = FK.kput fs o.name o.data := by unfold FK.doOp; rw [if_neg c11, if_pos c29]
      rw [hdo]
      refine At.region ?_
      refine L.mv rfl rfl ?_
      refine L.fa 1 rfl rfl rfl ?_
      refine L.ld rfl rfl rfl rfl ?_
      refine L.op rfl (o_vput rfl rfl strKey rfl rfl rfl (.tail (.tail .head)) ?_)
      refine L.nil ?_
      refine At.inBlock ?_
      exact At.end0 [_, _] rfl ⟨rfl, (b4, o.data) :: P, hmono _ _, rfl⟩ ((Ent.sel3 .head .head (.tail .head)).trans ((Ent.putFiles hN).trans (Ent.cons (Ent.cons Ent.drop))))
    ·
      refine At.seq ?_
      refine At.region ?_
      refine L.pure rfl (ev_eql rfl rfl rfl) ?_
      refine L.as rfl rfl ?_
      refine L.nil ?_
      refine At.then ?_
      refine At.condD rfl (fun c34 => ?_) (fun c34 => ?_)
      ·
        have hdo : FK.doOp fs o = fs.eraseP (·.1 == o.name) := by unfold FK.doOp; rw [if_neg c11, if_neg c29, if_pos c34]
        rw [hdo]
        refine At.region ?_
        refine L.mv rfl rfl ?_
        refine L.fa 1 rfl rfl rfl ?_
        refine L.ld rfl rfl rfl rfl ?_
        refine L.op rfl (o_vdel rfl rfl strKey rfl rfl (.tail (.tail .head)) ?_)
        refine L.nil ?_
        refine At.inBlock ?_
        rw [ptrM_del]
        exact At.end0 [_, _] rfl ⟨rfl, P, fun _ h => h, rfl⟩ ((Ent.sel2 .head (.tail (.tail .head))).trans ((Ent.closeFiles (hN.del o.name)).trans (Ent.cons (Ent.cons (Ent.drop.trans Ent.drop)))))
      ·
        have hdo : FK.doOp fs o = fs := by unfold FK.doOp; rw [if_neg c11, if_neg c29, if_neg c34]
        rw [hdo]
        refine At.skip ?_
        refine At.inBlock ?_
        exact At.end0 [_, _] rfl ⟨rfl, P, fun _ h => h, rfl⟩ ((Ent.sel2 (.tail (.tail .head)) (.tail (.tail .head))).trans ((Ent.closeFiles hN).trans (Ent.cons (Ent.cons (Ent.drop.trans Ent.drop)))))
end Go.Proofs.YtmeegfamopaljaaGreatDoor

namespace Go.SL
open Go Go.RowKit
section
variable {P : Program} {E : Env} {n : Nat} {D : List Deferred} {ts : List (Nat × Value)} {l : List HP} {ops : Array Oper} {Q : Exit → Act → World → Prop} {rest : List Oper} {i : Nat} {ty : TypeId} {pos : String} {af : Array Edge} {g : Option (Nat × Bool)}
def BytesIs (A : Option Addr) (bs : List UInt8) (w : World) : Prop := (A = none → bs = []) ∧ ∀ b o, A = some ⟨b, o, none⟩ → ∀ j (hj : j < bs.length), w.cell? ⟨b, o + j, none⟩ = some (.int .u8 (bs[j].toNat : Int))
theorem ev_text {src dst e : TypeId} {x : Operand} {A : Option Addr} {c : Nat} {bs : List UInt8} (hs : P.underlying src = some (.slice e)) (he : P.underlying e = some (.int .u8)) (hd : P.underlying dst = some .string) (hA : ∀ ad, A = some ad → ∃ b o, ad = ⟨b, o, none⟩)
    (hx : ev ts x = some (.slice A bs.length c)) : Ev P ts (.convert src dst x) (.string ⟨bs.toArray⟩) (BytesIs A bs) := by
  intro a w _ _ _ _ _ kn hφ
  cases A with
  | none =>
    obtain rfl := hφ.1 rfl
    have hr : (convert src dst (.slice none ([] : List UInt8).length c)).run P w = .ok (.string .empty) w := by
      rw [run_convert_bytes_string w src dst e none _ c hs he hd]
      simp [Conv.bytesToString]
    simp only [execOp, kn.eval hx, Sem.run_bind, hr, Result.andThen_ok, Sem.run_pure]
    rfl
  | some ad =>
    obtain ⟨b, o, rfl⟩ := hA ad rfl
    have hr := run_convert_bytes_back (P := P) w src dst e ⟨b, o, none⟩ c bs hs he hd fun j hj => by rw [add_plain]; exact hφ.2 b o rfl j hj
    simp only [execOp, kn.eval hx, Sem.run_bind, hr, Result.andThen_ok, Sem.run_pure]
end
end Go.SL

namespace Go.Proofs.YtmeegfamopaljaaGreatDoor
open Go Go.RowKit Go.SL
variable {G : Env → Prop}
theorem infoOp : elemIs Tryz.prog 211 (.agg #[.int .i64 0, .string .empty, .string .empty]) 3 40 := by unfold elemIs; kernel_rfl
theorem fill_op (o : FK.DOp) (t : Nat) : Instr.fill (fun i => some (i * 3, 3)) (Array.map (fun x => ((.agg #[.int .i64 0, .string .empty, .string .empty] : Value)).cells[x % ((.agg #[.int .i64 0, .string .empty, .string .empty] : Value)).cells.size]!) (Array.range (1 * 3))) ((List.map (fun x => x.fst) [((0 : Nat), Operand.tmp t)]).zip [.agg (opL o).toArray]) = some (opL o).toArray := by
  have e1 : Array.range (1 * 3) = #[0, 1, 2] := rfl
  rw [e1]
  simp [Instr.fill, Value.cells]
theorem opsV_snoc (l : List FK.DOp) (o : FK.DOp) : opsV (l ++ [o]) = opsV l ++ opL o := by
  unfold opsV
  rw [List.flatMap_append]
  rfl
set_option maxRecDepth 10000 in
set_option maxHeartbeats 1000000 in
theorem tell_does {d : Nat} {σ : FK.Dsk} {o : FK.DOp} (hsz : FK.vol σ.now + o.data.size ≤ 9223372036854775807) (hp : σ.pend.length ≤ 1099511627776) : Does Tryz.prog G 334 [ptr d, .agg (opL o).toArray].toArray [diskAt d σ] fun v m => v = errV (σ.tell o).2 ∧ m = [diskAt d (σ.tell o).1] := by
  have hsz' : FK.vol σ.writes.1.now + o.data.size ≤ 9223372036854775807 := by
    have : σ.writes.1.now = σ.now := by unfold FK.Dsk.writes; split; rfl; split <;> rfl
    rw [this]; exact hsz
  have hp' : σ.writes.1.pend.length ≤ 1099511627776 := by
    have : σ.writes.1.pend = σ.pend := by unfold FK.Dsk.writes; split; rfl; split <;> rfl
    rw [this]; exact hp
  have hcode : σ.writes.2 = 0 ∨ σ.writes.2 = 10 ∨ σ.writes.2 = 11 := by unfold FK.Dsk.writes; split; exact .inr (.inr rfl); split; exact .inr (.inl rfl); exact .inl rfl
  have htell : σ.tell o = if σ.writes.2 = 11 then ({ σ.writes.1 with pend := σ.writes.1.pend ++ [o] }, 11) else if σ.writes.2 ≠ 0 then σ.writes else if o.kind = 3 ∧ FK.kget σ.writes.1.now o.name = none then (σ.writes.1, 9) else ({ σ.writes.1 with now := FK.doOp σ.writes.1.now o, pend := σ.writes.1.pend ++ [o] }, 0) := rfl
  clear hsz hp
  refine Does.body Tryz.func334 rfl rfl fun E fr hE => ?_
  refine At.app1 ?_
  refine At.seq ?_
  refine At.region ?_
  refine L.op rfl (o_box rfl rfl fun b3 => ?_)
  refine L.as rfl rfl ?_
  refine L.nil ?_
  refine At.then ?_
  refine At.seq ?_
  refine At.seq ?_
  refine At.region ?_
  refine L.mv rfl rfl ?_
  refine L.op rfl (o_call rfl rfl rfl hE writes_does (Ent.sel (.tail (.head))) ?_)
  rintro v m ⟨hv, rfl⟩
  refine At.app1 ?_
  generalize σ.writes = ω at *
  obtain ⟨⟨dur, now, pend, left, full, down⟩, e⟩ := ω
  simp only at hsz' hp' hcode hv ⊢
  refine L.as rfl rfl ?_
  refine L.nil ?_
  refine At.then ?_
  refine At.seq ?_
  by_cases HE : e = 0
  ·
    subst HE
    subst hv
    refine At.region ?_
    refine L.mv rfl rfl ?_
    refine L.pure rfl (ev_neqNil0 rfl rfl) ?_
    refine At.ex .head fun q => At.openAll ?_
    refine At.ent (l' := diskR d q ⟨dur, now, pend, left, full, down⟩ (blk b3 211 (opL o).toArray :: fr)) (Ent.refl _) ?_
    refine At.ex (.tail (.tail .head)) fun M => At.openAll ?_
    refine At.ent (l' := HP.pure (Names q.P M now) :: vmap strV q.mn (ptrM M) :: blk d 131 (dskC q ⟨dur, now, pend, left, full, down⟩) :: filesAt q.md q.P dur :: pool q.P :: row 211 3 q.pv pend.length (opsV pend) :: blk b3 211 (opL o).toArray :: fr) (Ent.refl _) ?_
    refine At.pure .head fun hN => ?_
    refine L.nil ?_
    refine At.then ?_
    refine At.condF rfl ?_
    refine At.skip ?_
    refine At.then ?_
    refine At.seq ?_
    refine At.seq ?_
    by_cases HG : ∃ b s, FK.kget M o.name = some b ∧ FK.kget now o.name = some s ∧ (b, s) ∈ q.P
    ·
      obtain ⟨ob, os, hM, hF, hP⟩ := HG
      refine Dr.start rfl ?_
      refine Dr.p 0 rfl rfl (by kernel_rfl) (ev_move rfl) ?_
      refine Dr.p 1 rfl rfl (by kernel_rfl) (ev_nil rfl) ?_
      refine Dr.p 2 rfl rfl (by kernel_rfl) (ev_field (off := 1) rfl rfl) ?_
      refine Dr.ld 3 rfl rfl (by kernel_rfl) (ev_load1 rfl rfl) (cellIs rfl) ?_
      refine Dr.p 4 rfl rfl (by kernel_rfl) (ev_field (off := 1) rfl rfl) ?_
      refine Dr.ld 5 rfl rfl (by kernel_rfl) (ev_load1 rfl rfl) (cellIs rfl) ?_
      refine Dr.ld 6 rfl rfl (by kernel_rfl) (ev_vlookY (a := o.name) (v := ptr ob) rfl strKey rfl rfl (by rw [ptrM_get, hM]; rfl)) (vmapIs .head) ?_
      refine Dr.p 7 rfl rfl (by kernel_rfl) (ev_move rfl) ?_
      refine Dr.p 8 rfl rfl (by kernel_rfl) (ev_extract rfl rfl) ?_
      refine Dr.p 9 rfl rfl (by kernel_rfl) (ev_extract rfl rfl) ?_
      refine Dr.p 10 rfl rfl (by kernel_rfl) (ev_assign rfl) ?_
      refine Dr.p 11 rfl rfl (by kernel_rfl) (ev_assign rfl) ?_
      refine Dr.done (by kernel_rfl) ?_
      refine At.then ?_
      refine At.seq ?_
      refine At.region ?_
      refine L.mv rfl rfl ?_
      refine L.pure rfl (ev_not rfl rfl) ?_
      refine L.mv rfl rfl ?_
      refine L.off rfl rfl rfl rfl rfl rfl ?_
      refine L.off rfl rfl rfl rfl rfl rfl ?_
      refine L.off rfl rfl rfl rfl rfl rfl ?_
      refine L.pure rfl (ev_pick rfl rfl rfl) ?_
      refine L.nil ?_
      refine At.then ?_
      refine At.condF rfl ?_
      refine At.skip ?_
      refine At.then ?_
      refine At.seq ?_
      refine At.ent (l' := filesAt q.mn q.P now :: pool q.P :: blk d 131 (dskC q ⟨dur, now, pend, left, full, down⟩) :: filesAt q.md q.P dur :: row 211 3 q.pv pend.length (opsV pend) :: blk b3 211 (opL o).toArray :: fr) ((Ent.sel2 .head (.tail (.tail .head))).trans ((Ent.cons (Ent.refl _)).trans (Ent.closeFiles hN))) ?_
      refine Dr.start rfl ?_
      refine Dr.p 0 rfl rfl (by kernel_rfl) (ev_move rfl) ?_
      refine Dr.p 1 rfl rfl (by kernel_rfl) (ev_nil rfl) ?_
      refine Dr.p 2 rfl rfl (by kernel_rfl) (ev_field (off := 1) rfl rfl) ?_
      refine Dr.ld 3 rfl rfl (by kernel_rfl) (ev_load1 rfl rfl) (cellIs rfl) ?_
      refine Dr.ld 4 rfl rfl (by kernel_rfl) (ev_loadN (vs := opL o) rfl rfl rfl rfl) (rowAll rfl) ?_
      refine Dr.run 5 rfl rfl (by kernel_rfl) (o_call rfl rfl rfl hE (do_does (P := q.P) (fs := now) (o := o) (fun _ w hw => by have := FK.vol_get hw; omega)) (Ent.refl _) ?_)
      rintro v m ⟨rfl, P', hP', rfl⟩
      refine At.app2 ?_
      refine Dr.kept [false, false] (by kernel_rfl) Kept.nil ?_
      refine Dr.done (by kernel_rfl) ?_
      refine At.then ?_
      refine At.seq ?_
      refine At.ent (l' := filesAt q.md P' dur :: filesAt q.mn P' (FK.doOp now o) :: pool P' :: blk d 131 (dskC q ⟨dur, now, pend, left, full, down⟩) :: row 211 3 q.pv pend.length (opsV pend) :: blk b3 211 (opL o).toArray :: fr) ((Ent.sel (.tail (.tail (.tail .head)))).trans (Ent.moreFiles hP')) ?_
      refine Dr.start rfl ?_
      refine Dr.p 0 rfl rfl (by kernel_rfl) (ev_move rfl) ?_
      refine Dr.p 1 rfl rfl (by kernel_rfl) (ev_move rfl) ?_
      refine Dr.p 2 rfl rfl (by kernel_rfl) (ev_nil rfl) ?_
      refine Dr.p 3 rfl rfl (by kernel_rfl) (ev_field (off := 2) rfl rfl) ?_
      refine Dr.ld 4 rfl rfl (by kernel_rfl) (ev_load1 rfl rfl) (cellIs rfl) ?_
      refine Dr.ld 5 rfl rfl (by kernel_rfl) (ev_loadN (vs := opL o) rfl rfl rfl rfl) (rowAll rfl) ?_
      refine Dr.run 6 rfl rfl (by kernel_rfl) (o_slices (m := 1) (z := .agg #[.int .i64 0, .string .empty, .string .empty]) (size := 3) (ps := [(0, .tmp 55)]) (vs := [.agg (opL o).toArray]) (cs := (opL o).toArray) rfl rfl rfl rfl (by omega) (by omega) rfl (fill_op _ _) fun b56 => ?_)
      refine Dr.kept [false, true] (by kernel_rfl) (Kept.cons (cellIs rfl) Kept.nil) ?_
      refine Dr.run 7 rfl rfl (by kernel_rfl) (o_append rfl rfl infoOp rfl (by omega) rfl rfl (HasVal.sel (v := q.pv)) (news := opL o) rfl (fun h => by cases h) (srcIs (fun j u h => by simpa using h)) (by simp [Value.oneCell']) (by unfold maxLen; omega) (by omega) fun v57 hv57 => ?_)
      refine At.formRow (HasVal.sel (v := v57)) ?_
      rintro A57 c57 rfl - - - - -
      refine Dr.kept [false] (by kernel_rfl) Kept.nil ?_
      refine Dr.p 8 rfl rfl (by kernel_rfl) (ev_nil rfl) ?_
      refine Dr.p 9 rfl rfl (by kernel_rfl) (ev_field (off := 2) rfl rfl) ?_
      refine Dr.run 10 rfl rfl (by kernel_rfl) (o_store1 rfl rfl rfl rfl rfl (by first | decide | simp | (simp; omega)) ?_)
      refine At.blkAs d (dskC ⟨q.md, q.mn, .slice A57 (pend.length + 1) c57, P'⟩ ⟨dur, FK.doOp now o, pend ++ [o], left, full, down⟩) rfl ?_
      refine At.ent (l' := diskAt d ⟨dur, FK.doOp now o, pend ++ [o], left, full, down⟩ :: fr) ?_ ?_
      · refine Ent.trans ?_ (Ent.closeDisk ⟨q.md, q.mn, .slice A57 (pend.length + 1) c57, P'⟩ ⟨dur, FK.doOp now o, pend ++ [o], left, full, down⟩)
        show Ent _ (_ :: _ :: _ :: _ :: row 211 3 _ (pend ++ [o]).length (opsV (pend ++ [o])) :: fr)
        rw [opsV_snoc, List.length_append]
        exact Ent.auto
      refine Dr.kept [] (by kernel_rfl) Kept.nil ?_
      refine Dr.done (by kernel_rfl) ?_
      refine At.then ?_
      refine At.seq ?_
      refine At.region ?_
      refine L.as rfl rfl ?_
      refine L.nil ?_
      refine At.then ?_
      refine At.ret ?_
      have ht : σ.tell o = (⟨dur, FK.doOp now o, pend ++ [o], left, full, down⟩, 0) := by rw [htell, if_neg (by simp), if_neg (by simp), if_neg (by rw [hF]; simp)]
      rw [ht]
      exact At.ret1 [_] rfl rfl ⟨rfl, rfl⟩ (Ent.refl _)
    ·
      obtain ⟨hM, hF⟩ : FK.kget M o.name = none ∧ FK.kget now o.name = none := by rcases hN.get o.name with h | h; exact h; exact absurd h HG
      refine Dr.start rfl ?_
      refine Dr.p 0 rfl rfl (by kernel_rfl) (ev_move rfl) ?_
      refine Dr.p 1 rfl rfl (by kernel_rfl) (ev_nil rfl) ?_
      refine Dr.p 2 rfl rfl (by kernel_rfl) (ev_field (off := 1) rfl rfl) ?_
      refine Dr.ld 3 rfl rfl (by kernel_rfl) (ev_load1 rfl rfl) (cellIs rfl) ?_
      refine Dr.p 4 rfl rfl (by kernel_rfl) (ev_field (off := 1) rfl rfl) ?_
      refine Dr.ld 5 rfl rfl (by kernel_rfl) (ev_load1 rfl rfl) (cellIs rfl) ?_
      refine Dr.ld 6 rfl rfl (by kernel_rfl) (ev_vlookN (m := ptrM M) (a := o.name) rfl strKey rfl rfl rfl (by rw [ptrM_get, hM]; rfl)) (vmapIs .head) ?_
      refine Dr.p 7 rfl rfl (by kernel_rfl) (ev_move rfl) ?_
      refine Dr.p 8 rfl rfl (by kernel_rfl) (ev_extract rfl rfl) ?_
      refine Dr.p 9 rfl rfl (by kernel_rfl) (ev_extract rfl rfl) ?_
      refine Dr.p 10 rfl rfl (by kernel_rfl) (ev_assign rfl) ?_
      refine Dr.p 11 rfl rfl (by kernel_rfl) (ev_assign rfl) ?_
      refine Dr.done (by kernel_rfl) ?_
      refine At.then ?_
      refine At.seq ?_
      refine At.region ?_
      refine L.mv rfl rfl ?_
      refine L.pure rfl (ev_not rfl rfl) ?_
      refine L.mv rfl rfl ?_
      refine L.on rfl rfl rfl (L.vala rfl (ev_field (off := 0) rfl rfl) (fun _ _ => trivial) ?_)
      refine L.on rfl rfl rfl (L.vala rfl (ev_load1 rfl rfl) (cellIs rfl) ?_)
      refine L.on rfl rfl rfl (L.vala rfl (ev_eql rfl rfl rfl) (fun _ _ => trivial) ?_)
      refine L.pure rfl (ev_pick rfl rfl rfl) ?_
      refine L.nil ?_
      refine At.then ?_
      refine At.condD rfl (fun c42 => ?_) (fun c42 => ?_)
      ·
        refine At.seq ?_
        refine At.region ?_
        refine L.pure rfl (ev_iface rfl rfl rfl) ?_
        refine L.as rfl rfl ?_
        refine L.nil ?_
        refine At.then ?_
        refine At.ret ?_
        refine At.thenRet ?_
        have ht : σ.tell o = (⟨dur, now, pend, left, full, down⟩, 9) := by rw [htell, if_neg (by simp), if_neg (by simp), if_pos ⟨c42, hF⟩]
        rw [ht]
        refine At.ret1 [diskAt d ⟨dur, now, pend, left, full, down⟩] rfl rfl ⟨rfl, rfl⟩ ?_
        refine Ent.trans ?_ (Ent.closeDisk q ⟨dur, now, pend, left, full, down⟩)
        refine Ent.trans (Ent.closeFiles hN) ?_
        show Ent _ (_ :: filesAt q.md q.P dur :: filesAt q.mn q.P now :: pool q.P :: _ :: fr)
        exact Ent.auto
      ·
        refine At.skip ?_
        refine At.then ?_
        refine At.seq ?_
        refine At.ent (l' := filesAt q.mn q.P now :: pool q.P :: blk d 131 (dskC q ⟨dur, now, pend, left, full, down⟩) :: filesAt q.md q.P dur :: row 211 3 q.pv pend.length (opsV pend) :: blk b3 211 (opL o).toArray :: fr) ((Ent.sel2 .head (.tail (.tail .head))).trans ((Ent.cons (Ent.refl _)).trans (Ent.closeFiles hN))) ?_
        refine Dr.start rfl ?_
        refine Dr.p 0 rfl rfl (by kernel_rfl) (ev_move rfl) ?_
        refine Dr.p 1 rfl rfl (by kernel_rfl) (ev_nil rfl) ?_
        refine Dr.p 2 rfl rfl (by kernel_rfl) (ev_field (off := 1) rfl rfl) ?_
        refine Dr.ld 3 rfl rfl (by kernel_rfl) (ev_load1 rfl rfl) (cellIs rfl) ?_
        refine Dr.ld 4 rfl rfl (by kernel_rfl) (ev_loadN (vs := opL o) rfl rfl rfl rfl) (rowAll rfl) ?_
        refine Dr.run 5 rfl rfl (by kernel_rfl) (o_call rfl rfl rfl hE (do_does (P := q.P) (fs := now) (o := o) (fun _ w hw => by have := FK.vol_get hw; omega)) (Ent.refl _) ?_)
        rintro v m ⟨rfl, P', hP', rfl⟩
        refine At.app2 ?_
        refine Dr.kept [false, false] (by kernel_rfl) Kept.nil ?_
        refine Dr.done (by kernel_rfl) ?_
        refine At.then ?_
        refine At.seq ?_
        refine At.ent (l' := filesAt q.md P' dur :: filesAt q.mn P' (FK.doOp now o) :: pool P' :: blk d 131 (dskC q ⟨dur, now, pend, left, full, down⟩) :: row 211 3 q.pv pend.length (opsV pend) :: blk b3 211 (opL o).toArray :: fr) ((Ent.sel (.tail (.tail (.tail .head)))).trans (Ent.moreFiles hP')) ?_
        refine Dr.start rfl ?_
        refine Dr.p 0 rfl rfl (by kernel_rfl) (ev_move rfl) ?_
        refine Dr.p 1 rfl rfl (by kernel_rfl) (ev_move rfl) ?_
        refine Dr.p 2 rfl rfl (by kernel_rfl) (ev_nil rfl) ?_
        refine Dr.p 3 rfl rfl (by kernel_rfl) (ev_field (off := 2) rfl rfl) ?_
        refine Dr.ld 4 rfl rfl (by kernel_rfl) (ev_load1 rfl rfl) (cellIs rfl) ?_
        refine Dr.ld 5 rfl rfl (by kernel_rfl) (ev_loadN (vs := opL o) rfl rfl rfl rfl) (rowAll rfl) ?_
        refine Dr.run 6 rfl rfl (by kernel_rfl) (o_slices (m := 1) (z := .agg #[.int .i64 0, .string .empty, .string .empty]) (size := 3) (ps := [(0, .tmp 55)]) (vs := [.agg (opL o).toArray]) (cs := (opL o).toArray) rfl rfl rfl rfl (by omega) (by omega) rfl (fill_op _ _) fun b56 => ?_)
        refine Dr.kept [false, true] (by kernel_rfl) (Kept.cons (cellIs rfl) Kept.nil) ?_
        refine Dr.run 7 rfl rfl (by kernel_rfl) (o_append rfl rfl infoOp rfl (by omega) rfl rfl (HasVal.sel (v := q.pv)) (news := opL o) rfl (fun h => by cases h) (srcIs (fun j u h => by simpa using h)) (by simp [Value.oneCell']) (by unfold maxLen; omega) (by omega) fun v57 hv57 => ?_)
        refine At.formRow (HasVal.sel (v := v57)) ?_
        rintro A57 c57 rfl - - - - -
        refine Dr.kept [false] (by kernel_rfl) Kept.nil ?_
        refine Dr.p 8 rfl rfl (by kernel_rfl) (ev_nil rfl) ?_
        refine Dr.p 9 rfl rfl (by kernel_rfl) (ev_field (off := 2) rfl rfl) ?_
        refine Dr.run 10 rfl rfl (by kernel_rfl) (o_store1 rfl rfl rfl rfl rfl (by first | decide | simp | (simp; omega)) ?_)
        refine At.blkAs d (dskC ⟨q.md, q.mn, .slice A57 (pend.length + 1) c57, P'⟩ ⟨dur, FK.doOp now o, pend ++ [o], left, full, down⟩) rfl ?_
        refine At.ent (l' := diskAt d ⟨dur, FK.doOp now o, pend ++ [o], left, full, down⟩ :: fr) ?_ ?_
        · refine Ent.trans ?_ (Ent.closeDisk ⟨q.md, q.mn, .slice A57 (pend.length + 1) c57, P'⟩ ⟨dur, FK.doOp now o, pend ++ [o], left, full, down⟩)
          show Ent _ (_ :: _ :: _ :: _ :: row 211 3 _ (pend ++ [o]).length (opsV (pend ++ [o])) :: fr)
          rw [opsV_snoc, List.length_append]
          exact Ent.auto
        refine Dr.kept [] (by kernel_rfl) Kept.nil ?_
        refine Dr.done (by kernel_rfl) ?_
        refine At.then ?_
        refine At.seq ?_
        refine At.region ?_
        refine L.as rfl rfl ?_
        refine L.nil ?_
        refine At.then ?_
        refine At.ret ?_
        have ht : σ.tell o = (⟨dur, FK.doOp now o, pend ++ [o], left, full, down⟩, 0) := by rw [htell, if_neg (by simp), if_neg (by simp), if_neg (fun h => c42 h.1)]
        rw [ht]
        exact At.ret1 [_] rfl rfl ⟨rfl, rfl⟩ (Ent.refl _)
  ·
    replace hv := hv.trans (if_neg HE)
    subst hv
    refine At.region ?_
    refine L.mv rfl rfl ?_
    refine L.pure rfl (ev_neqNil rfl rfl) ?_
    refine L.nil ?_
    refine At.then ?_
    refine At.condT rfl ?_
    refine At.seq ?_
    refine At.seq ?_
    refine At.region ?_
    refine L.mv rfl rfl ?_
    refine L.pure rfl (ev_iface rfl rfl rfl) ?_
    refine L.pure rfl (ev_eqlEI rfl rfl rfl rfl rfl rfl rfl) ?_
    refine L.nil ?_
    refine At.then ?_
    refine At.cond rfl (fun c14 => ?_) (fun c14 => ?_)
    ·
      obtain rfl : e = 11 := by simpa using c14
      refine At.ex .head fun q => At.openAll ?_
      refine At.ent (l' := diskR d q ⟨dur, now, pend, left, full, down⟩ (blk b3 211 (opL o).toArray :: fr)) (Ent.refl _) ?_
      refine Dr.start rfl ?_
      refine Dr.p 0 rfl rfl (by kernel_rfl) (ev_move rfl) ?_
      refine Dr.p 1 rfl rfl (by kernel_rfl) (ev_move rfl) ?_
      refine Dr.p 2 rfl rfl (by kernel_rfl) (ev_nil rfl) ?_
      refine Dr.p 3 rfl rfl (by kernel_rfl) (ev_field (off := 2) rfl rfl) ?_
      refine Dr.ld 4 rfl rfl (by kernel_rfl) (ev_load1 rfl rfl) (cellIs rfl) ?_
      refine Dr.ld 5 rfl rfl (by kernel_rfl) (ev_loadN (vs := opL o) rfl rfl rfl rfl) (rowAll rfl) ?_
      refine Dr.run 6 rfl rfl (by kernel_rfl) (o_slices (m := 1) (z := .agg #[.int .i64 0, .string .empty, .string .empty]) (size := 3) (ps := [(0, .tmp 20)]) (vs := [.agg (opL o).toArray]) (cs := (opL o).toArray) rfl rfl rfl rfl (by omega) (by omega) rfl (fill_op _ _) fun b21 => ?_)
      refine Dr.kept [false, true] (by kernel_rfl) (Kept.cons (cellIs rfl) Kept.nil) ?_
      refine Dr.run 7 rfl rfl (by kernel_rfl) (o_append rfl rfl infoOp rfl (by omega) rfl rfl (HasVal.sel (v := q.pv)) (news := opL o) rfl (fun h => by cases h) (srcIs (fun j u h => by simpa using h)) (by simp [Value.oneCell']) (by unfold maxLen; show pend.length + 1 ≤ _; omega) (by show (pend.length + 1) * 40 ≤ _; omega) fun v22 hv22 => ?_)
      refine At.formRow (HasVal.sel (v := v22)) ?_
      rintro A22 c22 rfl - - - - -
      refine Dr.kept [false] (by kernel_rfl) Kept.nil ?_
      refine Dr.p 8 rfl rfl (by kernel_rfl) (ev_nil rfl) ?_
      refine Dr.p 9 rfl rfl (by kernel_rfl) (ev_field (off := 2) rfl rfl) ?_
      refine Dr.run 10 rfl rfl (by kernel_rfl) (o_store1 rfl rfl rfl rfl rfl (by first | decide | simp | (simp; omega)) ?_)
      refine At.blkAs d (dskC ⟨q.md, q.mn, .slice A22 (pend.length + 1) c22, q.P⟩ ⟨dur, now, pend ++ [o], left, full, down⟩) rfl ?_
      refine At.ent (l' := diskAt d ⟨dur, now, pend ++ [o], left, full, down⟩ :: fr) ?_ ?_
      · refine Ent.trans ?_ (Ent.closeDisk ⟨q.md, q.mn, .slice A22 (pend.length + 1) c22, q.P⟩ ⟨dur, now, pend ++ [o], left, full, down⟩)
        show Ent _ (_ :: _ :: _ :: _ :: row 211 3 _ (pend ++ [o]).length (opsV (pend ++ [o])) :: fr)
        rw [opsV_snoc, List.length_append]
        exact Ent.auto
      refine Dr.kept [] (by kernel_rfl) Kept.nil ?_
      refine Dr.done (by kernel_rfl) ?_
      refine At.then ?_
      refine At.seq ?_
      refine At.region ?_
      refine L.mv rfl rfl ?_
      refine L.as rfl rfl ?_
      refine L.nil ?_
      refine At.then ?_
      refine At.ret ?_
      refine At.thenRet ?_
      have ht : σ.tell o = (⟨dur, now, pend ++ [o], left, full, down⟩, 11) := by rw [htell, if_pos rfl]
      rw [ht]
      exact At.ret1 [_] rfl rfl ⟨rfl, rfl⟩ (Ent.refl _)
    ·
      have hne : e ≠ 11 := fun h => by rw [h] at c14; exact absurd c14 (by decide)
      refine At.skip ?_
      refine At.then ?_
      refine At.seq ?_
      refine At.region ?_
      refine L.mv rfl rfl ?_
      refine L.as rfl rfl ?_
      refine L.nil ?_
      refine At.then ?_
      refine At.ret ?_
      refine At.thenRet ?_
      have ht : σ.tell o = (⟨dur, now, pend, left, full, down⟩, e) := by rw [htell, if_neg hne, if_pos HE]
      rw [ht]
      exact At.ret1 [_] rfl rfl ⟨(if_neg HE).symm, rfl⟩ (Ent.cons Ent.drop)
def txt (bs : List UInt8) : ByteArray := ⟨bs.toArray⟩
theorem txt_size (bs : List UInt8) : (txt bs).size = bs.length := by
  unfold txt
  show bs.toArray.size = _
  simp
theorem bytesIs {E : Env} {p : HP} {A : Option Addr} {bs : List UInt8} {l r : List HP} (h : Reads p A bs) (hA : A = none → bs = []) (s : Sel p l r) : ∀ w, Holds E w l → BytesIs A bs w := fun w hw => ⟨hA, fun _b _o hAb _j hj => h.at s hAb (List.getElem?_eq_getElem hj) w hw⟩
end Go.Proofs.YtmeegfamopaljaaGreatDoor

namespace Go.Proofs.YtmeegfamopaljaaGreatDoor
open Go Go.RowKit Go.SL
variable {G : Env → Prop}
set_option maxRecDepth 10000 in
theorem dput_does {d : Nat} {σ : FK.Dsk} {kind : Int} {name : ByteArray} {u : Value} {bs : List UInt8} (hsz : FK.vol σ.now + bs.length ≤ 9223372036854775807) (hp : σ.pend.length ≤ 1099511627776) (hl : bs.length ≤ 1099511627776) : Does Tryz.prog G 332 [ptr d, .int .i64 kind, strV name, u].toArray [diskAt d σ, bytesAt u bs] fun v m => v = errV (σ.tell ⟨kind, name, txt bs⟩).2 ∧ m = [diskAt d (σ.tell ⟨kind, name, txt bs⟩).1] := by
  refine Does.body Tryz.func332 rfl rfl fun E fr hE => ?_
  refine At.app2 ?_
  refine At.formRow (HasVal.sel (v := u)) ?_
  rintro A c rfl f1 f2 f3 f4 -
  have hform : bs ≠ [] → ∃ g, A = some ⟨g, 0, none⟩ := fun hne => by
    have hpos := List.length_pos_iff.2 hne
    cases A with
    | none => have := (f1 rfl).1; omega
    | some ad => obtain ⟨g, rfl⟩ := f2 ad rfl; exact ⟨g, rfl⟩
  have hA : A = none → bs = [] := fun h => by
    have := (f1 h).1
    exact List.eq_nil_of_length_eq_zero (by omega)
  refine At.seq ?_
  refine At.region ?_
  refine L.as rfl rfl ?_
  refine L.nil ?_
  refine At.then ?_
  refine At.seq ?_
  refine At.region ?_
  refine L.mv rfl rfl ?_
  refine L.mv rfl rfl ?_
  refine L.mv rfl rfl ?_
  refine L.mv rfl rfl ?_
  refine L.val rfl (ev_text (bs := bs) rfl rfl rfl (fun ad h => by obtain ⟨g, rfl⟩ := f2 ad h; exact ⟨g, 0, rfl⟩) rfl) (bytesIs (Reads.row (c := c) hform) hA (.tail .head)) ?_
  refine L.pure rfl (ev_build (cs := (opL ⟨kind, name, txt bs⟩).toArray) rfl rfl rfl rfl rfl) ?_
  refine L.op rfl (o_call rfl rfl rfl hE (tell_does (o := ⟨kind, name, txt bs⟩) (by rw [txt_size]; exact hsz) hp) (Ent.refl _) ?_)
  rintro v m ⟨hv, rfl⟩
  refine At.app1 ?_
  refine L.as rfl rfl ?_
  refine L.nil ?_
  refine At.then ?_
  refine At.seq ?_
  refine At.seq ?_
  refine At.region ?_
  refine L.mv rfl rfl ?_
  refine L.pure rfl (ev_lenS rfl rfl) ?_
  refine L.mv rfl rfl ?_
  refine L.nil ?_
  refine At.then ?_
  refine At.block ?_
  refine At.loop (X := Nat × List Value) (fun x => [(20, .int .i64 x.1), (19, .int .i64 bs.length), (3, .slice A bs.length c), (9, v)]) (fun x => row 5 1 (.slice A bs.length c) bs.length x.2 :: diskAt d (σ.tell ⟨kind, name, txt bs⟩).1 :: fr) (fun x => x.1 ≤ bs.length) (fun x => bs.length - x.1) (0, bytesV bs) (Nat.zero_le _) ⟨rfl, rfl, rfl, rfl, trivial⟩ (Ent.sel (.tail .head)) ?_
  rintro ⟨k, ys⟩ hk
  simp only at hk ⊢
  refine At.seq ?_
  refine At.region ?_
  refine L.pure rfl (ev_lss rfl rfl rfl) ?_
  refine L.nil ?_
  refine At.then ?_
  refine At.seq ?_
  refine At.condD rfl (fun c21 => ?_) (fun c21 => ?_)
  ·
    have hlt : k < bs.length := by omega
    obtain ⟨g, rfl⟩ := hform (by rintro rfl; simp at hlt)
    refine At.skip ?_
    refine At.then ?_
    refine At.seq ?_
    refine At.block ?_
    refine At.seq ?_
    refine At.region ?_
    refine L.mv rfl rfl ?_
    refine L.as rfl rfl ?_
    refine L.nil ?_
    refine At.then ?_
    refine At.region ?_
    refine L.mv rfl rfl ?_
    refine L.mv rfl rfl ?_
    refine L.pure rfl (ev_ixN (z := 1) rfl rfl rfl rfl hlt) ?_
    refine L.op rfl (o_storeRow .head rfl rfl rfl rfl (by omega) ?_)
    refine L.nil ?_
    refine At.inBlock (At.then ?_)
    refine At.region ?_
    refine L.pure rfl (ev_add (r := ((k + 1 : Nat) : Int)) rfl rfl (by rw [w64 (by omega)]; omega)) ?_
    refine L.mv rfl rfl ?_
    refine L.nil ?_
    exact At.round (k + 1, _) (by simp only; omega) (by simp only; omega) ⟨rfl, rfl, rfl, rfl, trivial⟩ (Ent.refl _)
  ·
    refine At.exit ?_
    refine At.thenExit (At.roundExit (At.inBlockHit (At.then ?_)))
    refine At.seq ?_
    refine At.region ?_
    refine L.mv rfl rfl ?_
    refine L.as rfl rfl ?_
    refine L.nil ?_
    refine At.then ?_
    refine At.ret ?_
    exact At.ret1 [_] rfl rfl ⟨hv, rfl⟩ Ent.drop
set_option maxRecDepth 10000 in
theorem append_does {d : Nat} {σ : FK.Dsk} {name : ByteArray} {u : Value} {bs : List UInt8} (hsz : FK.vol σ.now + bs.length ≤ 9223372036854775807) (hp : σ.pend.length ≤ 1099511627776) (hl : bs.length ≤ 1099511627776) : Does Tryz.prog G 326 [ptr d, strV name, u].toArray [diskAt d σ, bytesAt u bs] fun v m => v = errV (σ.tell ⟨2, name, txt bs⟩).2 ∧ m = [diskAt d (σ.tell ⟨2, name, txt bs⟩).1] := by
  refine Does.body Tryz.func326 rfl rfl fun E fr hE => ?_
  refine At.app2 ?_
  refine At.seq ?_
  refine At.region ?_
  refine L.as rfl rfl ?_
  refine L.nil ?_
  refine At.then ?_
  refine At.seq ?_
  refine At.region ?_
  refine L.mv rfl rfl ?_
  refine L.mv rfl rfl ?_
  refine L.mv rfl rfl ?_
  refine L.op rfl (o_call rfl rfl rfl hE (dput_does hsz hp hl) (Ent.refl _) ?_)
  rintro v m ⟨hv, rfl⟩
  refine At.app1 ?_
  refine L.as rfl rfl ?_
  refine L.nil ?_
  refine At.then ?_
  refine At.ret ?_
  exact At.ret1 [_] rfl rfl ⟨hv, rfl⟩ (Ent.refl _)
theorem opsV_at {l : List FK.DOp} {i : Nat} {o : FK.DOp} (h : l[i]? = some o) (j : Nat) (u : Value) (hu : (opL o)[j]? = some u) : (opsV l)[0 + i * 3 + j]? = some u := by
  rw [Nat.zero_add]
  exact flatx_at (k := 3) (fun _ => rfl) j h hu
theorem pvol_take {l : List FK.DOp} {k : Nat} {o : FK.DOp} (h : l[k]? = some o) : FK.pvol (l.take k) + o.data.size ≤ FK.pvol l := by
  have h1 : l.take (k + 1) = l.take k ++ [o] := by rw [List.take_add_one, h]; rfl
  have h2 : l = l.take (k + 1) ++ l.drop (k + 1) := (List.take_append_drop _ _).symm
  have h3 : ∀ a b : List FK.DOp, FK.pvol (a ++ b) = FK.pvol a + FK.pvol b := fun a b => by simp [FK.pvol]
  have h4 : FK.pvol [o] = o.data.size := by simp [FK.pvol]
  have h5 : FK.pvol l = FK.pvol (l.take k) + o.data.size + FK.pvol (l.drop (k + 1)) := by
    conv => lhs; rw [h2, h1]
    rw [h3, h3, h4]
  omega
set_option maxRecDepth 10000 in
set_option maxHeartbeats 1000000 in
theorem sync_does {d : Nat} {σ : FK.Dsk} (hsz : FK.vol σ.dur + FK.pvol σ.pend ≤ 9223372036854775807) (hp : σ.pend.length ≤ 1099511627776) : Does Tryz.prog G 330 [ptr d].toArray [diskAt d σ] fun v m => v = errV σ.sync.2 ∧ m = [diskAt d σ.sync.1] := by
  have hsz' : FK.vol σ.writes.1.dur + FK.pvol σ.writes.1.pend ≤ 9223372036854775807 := by
    have : σ.writes.1.dur = σ.dur ∧ σ.writes.1.pend = σ.pend := by unfold FK.Dsk.writes; split; exact ⟨rfl, rfl⟩; split <;> exact ⟨rfl, rfl⟩
    rw [this.1, this.2]; exact hsz
  have hp' : σ.writes.1.pend.length ≤ 1099511627776 := by
    have : σ.writes.1.pend = σ.pend := by unfold FK.Dsk.writes; split; rfl; split <;> rfl
    rw [this]; exact hp
  have hsync : σ.sync = if σ.writes.2 ≠ 0 then σ.writes else ({ σ.writes.1 with dur := σ.writes.1.pend.foldl FK.doOp σ.writes.1.dur, pend := [] }, 0) := rfl
  clear hsz hp
  refine Does.body Tryz.func330 rfl rfl fun E fr hE => ?_
  refine At.app1 ?_
  refine At.seq ?_
  refine At.region ?_
  refine L.as rfl rfl ?_
  refine L.nil ?_
  refine At.then ?_
  refine At.seq ?_
  refine At.seq ?_
  refine At.region ?_
  refine L.mv rfl rfl ?_
  refine L.op rfl (o_call rfl rfl rfl hE writes_does (Ent.refl _) ?_)
  rintro v m ⟨hv, rfl⟩
  refine At.app1 ?_
  generalize σ.writes = ω at *
  obtain ⟨⟨dur, now, pend, left, full, down⟩, e⟩ := ω
  simp only at hsz' hp' hv ⊢
  refine L.as rfl rfl ?_
  refine L.nil ?_
  refine At.then ?_
  refine At.seq ?_
  by_cases HE : e = 0
  ·
    subst HE
    subst hv
    refine At.region ?_
    refine L.mv rfl rfl ?_
    refine L.pure rfl (ev_neqNil0 rfl rfl) ?_
    refine L.nil ?_
    refine At.then ?_
    refine At.condF rfl ?_
    refine At.skip ?_
    refine At.then ?_
    refine At.seq ?_
    refine At.seq ?_
    refine At.ex .head fun q => At.openAll ?_
    obtain ⟨md, mn, pv, P⟩ := q
    refine At.ent (l' := diskR d ⟨md, mn, pv, P⟩ ⟨dur, now, pend, left, full, down⟩ fr) (Ent.refl _) ?_
    refine At.formRow (HasVal.sel (v := pv)) ?_
    rintro A c rfl f1 f2 f3 f4 -
    refine At.ent (l' := blk d 131 (dskC ⟨md, mn, .slice A pend.length c, P⟩ ⟨dur, now, pend, left, full, down⟩) :: filesAt md P dur :: filesAt mn P now :: pool P :: row 211 3 (.slice A pend.length c) pend.length (opsV pend) :: fr) (Ent.refl _) ?_
    refine At.region ?_
    refine L.mv rfl rfl ?_
    refine L.nc rfl rfl ?_
    refine L.fa 2 rfl rfl rfl ?_
    refine L.ld rfl rfl rfl rfl ?_
    refine L.pure rfl (ev_lenS rfl rfl) ?_
    refine L.mv rfl rfl ?_
    refine L.nil ?_
    refine At.then ?_
    refine At.block ?_
    refine At.loop (X := Nat × List (Nat × ByteArray)) (fun x => [(16, .int .i64 x.1), (15, .int .i64 pend.length), (14, .slice A pend.length c), (0, ptr d)]) (fun x => filesAt md x.2 ((pend.take x.1).foldl FK.doOp dur) :: filesAt mn x.2 now :: pool x.2 :: row 211 3 (.slice A pend.length c) pend.length (opsV pend) :: blk d 131 (dskC ⟨md, mn, .slice A pend.length c, P⟩ ⟨dur, now, pend, left, full, down⟩) :: fr) (fun x => x.1 ≤ pend.length) (fun x => pend.length - x.1) (0, P) (Nat.zero_le _) ⟨rfl, rfl, rfl, rfl, trivial⟩ (by show Ent _ (filesAt md P dur :: filesAt mn P now :: pool P :: _ :: _ :: fr); exact Ent.auto) ?_
    rintro ⟨k, P'⟩ hk
    replace hk : k ≤ pend.length := hk
    refine At.ent (l' := filesAt md P' ((pend.take k).foldl FK.doOp dur) :: filesAt mn P' now :: pool P' :: row 211 3 (.slice A pend.length c) pend.length (opsV pend) :: blk d 131 (dskC ⟨md, mn, .slice A pend.length c, P⟩ ⟨dur, now, pend, left, full, down⟩) :: fr) (Ent.refl _) ?_
    refine At.seq ?_
    refine At.region ?_
    refine L.pure rfl (ev_lss rfl rfl rfl) ?_
    refine L.nil ?_
    refine At.then ?_
    refine At.seq ?_
    refine At.condD rfl (fun c17 => ?_) (fun c17 => ?_)
    ·
      have hlt : k < pend.length := by have : (k : Int) < (pend.length : Int) := c17; omega
      obtain ⟨o, ho⟩ : ∃ o, pend[k]? = some o := ⟨pend[k], by simp [hlt]⟩
      obtain ⟨g, rfl⟩ : ∃ g, A = some ⟨g, 0, none⟩ := by
        cases A with
        | none => have h0 : pend.length = 0 := (f1 rfl).1; omega
        | some ad => obtain ⟨g, rfl⟩ := f2 ad rfl; exact ⟨g, rfl⟩
      have hvol := pvol_take ho
      have hvol2 := FK.vol_fold (pend.take k) dur
      have htk : (pend.take (k + 1)).foldl FK.doOp dur = FK.doOp ((pend.take k).foldl FK.doOp dur) o := by rw [List.take_add_one, ho, List.foldl_append]; rfl
      refine At.skip ?_
      refine At.then ?_
      refine At.seq ?_
      refine At.block ?_
      refine At.seq ?_
      refine At.region ?_
      refine L.pure rfl (ev_ixN (z := 3) rfl rfl rfl rfl hlt) ?_
      refine L.val rfl (ev_loadN (vs := opL o) rfl rfl rfl rfl) (rowIn (.tail (.tail (.tail .head))) fun j u hj => opsV_at ho j u hj) ?_
      refine L.op rfl (o_alloc (z := .agg #[.int .i64 0, .string .empty, .string .empty]) rfl rfl fun b5 => ?_)
      refine L.op rfl (o_storeN (vs := opL o) rfl (m := 3) rfl rfl rfl rfl (by simp [Value.oneCell']) (by show 0 + 3 ≤ 3; omega) ?_)
      refine At.blkAs b5 (opL o).toArray rfl ?_
      refine L.nil ?_
      refine At.then ?_
      refine Dr.start rfl ?_
      refine Dr.p 0 rfl rfl (by kernel_rfl) (ev_move rfl) ?_
      refine Dr.p 1 rfl rfl (by kernel_rfl) (ev_nil rfl) ?_
      refine Dr.p 2 rfl rfl (by kernel_rfl) (ev_field (off := 0) rfl rfl) ?_
      refine Dr.ld 3 rfl rfl (by kernel_rfl) (ev_load1 rfl rfl) (cellIs rfl) ?_
      refine Dr.ld 4 rfl rfl (by kernel_rfl) (ev_loadN (vs := opL o) rfl rfl rfl rfl) (rowAll rfl) ?_
      refine Dr.run 5 rfl rfl (by kernel_rfl) (o_call rfl rfl rfl hE (do_does (mb := md) (P := P') (fs := (pend.take k).foldl FK.doOp dur) (o := o) (fun _ w hw => by have := FK.vol_get hw; omega)) (Ent.sel2 (.tail .head) (.tail (.tail .head))) ?_)
      rintro v m ⟨rfl, P2, hP2, rfl⟩
      refine At.app2 ?_
      refine Dr.kept [false, false] (by kernel_rfl) Kept.nil ?_
      refine Dr.done (by kernel_rfl) ?_
      refine At.inBlock (At.then ?_)
      refine At.region ?_
      refine L.pure rfl (ev_add (r := ((k + 1 : Nat) : Int)) rfl rfl (by rw [w64 (by omega)]; omega)) ?_
      refine L.mv rfl rfl ?_
      refine L.nil ?_
      exact At.round (k + 1, P2) hlt (by show pend.length - (k + 1) < pend.length - k; omega) ⟨rfl, rfl, rfl, rfl, trivial⟩ (by rw [htk]; exact ((Ent.sel (.tail (.tail (.tail .head)))).trans (Ent.moreFiles hP2)).trans (by show Ent (filesAt mn P2 now :: _ :: _ :: _ :: _ :: _ :: fr) _; exact Ent.auto))
    ·
      have hke : k = pend.length := by have : ¬ (k : Int) < (pend.length : Int) := c17; omega
      rw [hke, List.take_length]
      refine At.exit ?_
      refine At.thenExit (At.roundExit (At.inBlockHit (At.then ?_)))
      refine At.seq ?_
      refine At.region ?_
      refine L.mv rfl rfl ?_
      refine L.nc rfl rfl ?_
      refine L.fa 2 rfl rfl rfl ?_
      refine L.st rfl rfl rfl rfl (by first | decide | simp | (simp; omega)) ?_
      refine L.nil ?_
      refine At.then ?_
      refine At.seq ?_
      refine At.region ?_
      refine L.as rfl rfl ?_
      refine L.nil ?_
      refine At.then ?_
      refine At.ret ?_
      have ht : σ.sync = (⟨pend.foldl FK.doOp dur, now, [], left, full, down⟩, 0) := by rw [hsync, if_neg (by simp)]
      rw [ht]
      refine At.blkAs d (dskC ⟨md, mn, .slice none 0 0, P'⟩ ⟨pend.foldl FK.doOp dur, now, [], left, full, down⟩) rfl ?_
      refine At.ret1 [diskAt d ⟨pend.foldl FK.doOp dur, now, [], left, full, down⟩] rfl rfl ⟨rfl, rfl⟩ ?_
      refine Ent.trans ?_ (Ent.closeDisk ⟨md, mn, .slice none 0 0, P'⟩ ⟨pend.foldl FK.doOp dur, now, [], left, full, down⟩)
      refine (Ent.row0 (e := 211) (size := 3)).trans ?_
      show Ent _ (blk d 131 (dskC ⟨md, mn, .slice none 0 0, P'⟩ ⟨pend.foldl FK.doOp dur, now, [], left, full, down⟩) :: filesAt md P' (pend.foldl FK.doOp dur) :: filesAt mn P' now :: pool P' :: row 211 3 (.slice none 0 0) 0 [] :: fr)
      exact Ent.auto
  ·
    replace hv := hv.trans (if_neg HE)
    subst hv
    refine At.region ?_
    refine L.mv rfl rfl ?_
    refine L.pure rfl (ev_neqNil rfl rfl) ?_
    refine L.nil ?_
    refine At.then ?_
    refine At.condT rfl ?_
    refine At.seq ?_
    refine At.region ?_
    refine L.mv rfl rfl ?_
    refine L.as rfl rfl ?_
    refine L.nil ?_
    refine At.then ?_
    refine At.ret ?_
    refine At.thenRet ?_
    have ht : σ.sync = (⟨dur, now, pend, left, full, down⟩, e) := by rw [hsync, if_pos HE]
    rw [ht]
    exact At.ret1 [_] rfl rfl ⟨(if_neg HE).symm, rfl⟩ (Ent.refl _)
end Go.Proofs.YtmeegfamopaljaaGreatDoor
