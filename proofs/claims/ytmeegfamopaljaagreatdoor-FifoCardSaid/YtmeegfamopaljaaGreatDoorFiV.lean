/- The library's contracts at this program: a number's digits (laid out of the kit's shelf by its own tools). -/
import Derived.Shelf.Small.Bits
import Derived.Shelf.Strconv.Itoa0
import Derived.Shelf.Strconv.Itoa1
import Derived.Shelf.LaysM
import Derived.Shelf.Strconv.Itoa2
import Derived.Shelf.Strconv.Itoa3
import Derived.Test.YtmeegfamopaljaaGreatDoorChecked
import Derived.Test.YtmeegfamopaljaaGreatDoorFiU
import Derived.Test.YtmeegfamopaljaaGreatDoorFiT
import Derived.Test.YtmeegfamopaljaaGreatDoorFiS
import Derived.Test.YtmeegfamopaljaaGreatDoorFiD
namespace Go.Proofs
open Go.Shelf
open Go.Lib in
def Tryz.lays246_ren : Go.Shelf.Ren := ⟨fun | 246 => 250 | 283 => 276 | 284 => 277 | 285 => 278 | 286 => 279 | 129 => 227 | 317 => 299 | 318 => 300 | 319 => 301 | 320 => 141 | 337 => 195 | 338 => 196 | n => n, fun | 2 => 2 | 3 => 3 | 9 => 9 | 4 => 4 | 171 => 400 | 0 => 0 | 53 => 51 | 37 => 47 | 5 => 5 | 173 => 402 | 212 => 423 | 51 => 312 | 20 => 20 | 213 => 424 | 46 => 87 | 232 => 351 | 233 => 352 | n => n, fun | 17 => 5 | 18 => 1 | 19 => 2 | n => n⟩
open Go.RowKit Go.Sort Go.Lib in
def Tryz.lays243_ren : Go.Shelf.Ren := ⟨fun | 243 => 224 | 246 => 250 | 283 => 276 | 284 => 277 | 285 => 278 | 286 => 279 | 129 => 227 | 317 => 299 | 318 => 300 | 319 => 301 | 320 => 141 | 337 => 195 | 338 => 196 | n => n, fun | 3 => 3 | 9 => 9 | 2 => 2 | 4 => 4 | 171 => 400 | 0 => 0 | 53 => 51 | 37 => 47 | 5 => 5 | 173 => 402 | 212 => 423 | 51 => 312 | 20 => 20 | 213 => 424 | 46 => 87 | 232 => 351 | 233 => 352 | n => n, fun | 17 => 5 | 18 => 1 | 19 => 2 | n => n⟩
open Go.RowKit Go.Sort Go.Lib in
def Tryz.lays171_ren : Go.Shelf.Ren := ⟨fun | 171 => 200 | 243 => 224 | 246 => 250 | 283 => 276 | 284 => 277 | 285 => 278 | 286 => 279 | 129 => 227 | 317 => 299 | 318 => 300 | 319 => 301 | 320 => 141 | 337 => 195 | 338 => 196 | n => n, fun | 3 => 3 | 9 => 9 | 2 => 2 | 4 => 4 | 171 => 400 | 0 => 0 | 53 => 51 | 37 => 47 | 5 => 5 | 173 => 402 | 212 => 423 | 51 => 312 | 20 => 20 | 213 => 424 | 46 => 87 | 232 => 351 | 233 => 352 | n => n, fun | 17 => 5 | 18 => 1 | 19 => 2 | n => n⟩
theorem Tryz.lays171 : Go.Proofs.Lays.n171 Tryz.prog Tryz.lays171_ren := {
  mixed := by kernel_rfl
  f129 := Tryz.func227.trans (congrArg some (by kernel_rfl))
  f171 := Tryz.func200.trans (congrArg some (by kernel_rfl))
  f243 := Tryz.func224.trans (congrArg some (by kernel_rfl))
  f246 := Tryz.func250.trans (congrArg some (by kernel_rfl))
  f283 := Tryz.func276.trans (congrArg some (by kernel_rfl))
  f284 := Tryz.func277.trans (congrArg some (by kernel_rfl))
  f285 := Tryz.func278.trans (congrArg some (by kernel_rfl))
  f286 := Tryz.func279.trans (congrArg some (by kernel_rfl))
  f317 := Tryz.func299.trans (congrArg some (by kernel_rfl))
  f318 := Tryz.func300.trans (congrArg some (by kernel_rfl))
  f319 := Tryz.func301.trans (congrArg some (by kernel_rfl))
  f320 := Tryz.func141.trans (congrArg some (by kernel_rfl))
  f337 := Tryz.func195.trans (congrArg some (by kernel_rfl))
  f338 := Tryz.func196.trans (congrArg some (by kernel_rfl))
  t0 := Tryz.underlying0
  a0 := Tryz.isAgg0
  z0 := Tryz.sizeOf0
  v0 := Tryz.zeroValue0
  t2 := Tryz.underlying2
  a2 := Tryz.isAgg2
  z2 := Tryz.sizeOf2
  v2 := Tryz.zeroValue2
  t3 := Tryz.underlying3
  a3 := Tryz.isAgg3
  z3 := Tryz.sizeOf3
  v3 := Tryz.zeroValue3
  t4 := Tryz.underlying4
  a4 := Tryz.isAgg4
  z4 := Tryz.sizeOf4
  v4 := Tryz.zeroValue4
  t5 := Tryz.underlying5
  a5 := Tryz.isAgg5
  z5 := Tryz.sizeOf5
  v5 := Tryz.zeroValue5
  t9 := Tryz.underlying9
  a9 := Tryz.isAgg9
  z9 := Tryz.sizeOf9
  v9 := Tryz.zeroValue9
  t20 := Tryz.underlying20
  a20 := Tryz.isAgg20
  z20 := Tryz.sizeOf20
  v20 := Tryz.zeroValue20
  t37 := Tryz.underlying47
  a37 := Tryz.isAgg47
  z37 := Tryz.sizeOf47
  v37 := Tryz.zeroValue47
  t46 := Tryz.underlying87
  a46 := Tryz.isAgg87
  z46 := Tryz.sizeOf87
  v46 := Tryz.zeroValue87
  t51 := Tryz.underlying312
  a51 := Tryz.isAgg312
  z51 := Tryz.sizeOf312
  v51 := Tryz.zeroValue312
  t53 := Tryz.underlying51
  a53 := Tryz.isAgg51
  z53 := Tryz.sizeOf51
  v53 := Tryz.zeroValue51
  t171 := Tryz.underlying400
  a171 := Tryz.isAgg400
  z171 := Tryz.sizeOf400
  v171 := Tryz.zeroValue400
  t173 := Tryz.underlying402
  a173 := Tryz.isAgg402
  z173 := Tryz.sizeOf402
  v173 := Tryz.zeroValue402
  t212 := Tryz.underlying423
  a212 := Tryz.isAgg423
  z212 := Tryz.sizeOf423
  v212 := Tryz.zeroValue423
  t213 := Tryz.underlying424
  a213 := Tryz.isAgg424
  z213 := Tryz.sizeOf424
  t232 := Tryz.underlying351
  a232 := Tryz.isAgg351
  z232 := Tryz.sizeOf351
  v232 := Tryz.zeroValue351
  t233 := Tryz.underlying352
  a233 := Tryz.isAgg352
  z233 := Tryz.sizeOf352
  v233 := Tryz.zeroValue352
  g17 := by kernel_rfl
  g18 := by kernel_rfl
  g19 := by kernel_rfl }
open Go.RowKit Go.Sort Go.Lib in
theorem Tryz.strconv_Itoa_small (i : Nat) (hi : i < 100) (w : World) :
    Calls Tryz.prog 200 #[.int .i64 i] w fun e w' => e = .returned (.string ⟨(Lib.decDigits i).toArray⟩) ∧ w' = w := Any.strconv_Itoa_small Tryz.lays171 i hi w
end Go.Proofs

namespace FK
structure Jn where
  n : Nat
  torn : Bool
  broken : Int
def dec10 (n : Nat) : ByteArray := ⟨(Go.Lib.decDigits n).toArray⟩
def logName (n : Nat) : ByteArray := ⟨#[108, 111, 103]⟩ ++ dec10 n
def Jn.add (J : Jn) (σ : Dsk) (s : ByteArray) : Jn × Dsk × Int :=
  if J.broken ≠ 0 then (J, σ, J.broken) else if (σ.tell ⟨2, logName J.n, s⟩).2 ≠ 0 then ({ J with broken := (σ.tell ⟨2, logName J.n, s⟩).2 }, (σ.tell ⟨2, logName J.n, s⟩).1, (σ.tell ⟨2, logName J.n, s⟩).2)
  else ({ J with broken := (σ.tell ⟨2, logName J.n, s⟩).1.sync.2 }, (σ.tell ⟨2, logName J.n, s⟩).1.sync.1, (σ.tell ⟨2, logName J.n, s⟩).1.sync.2)
end FK
namespace Go.Proofs.YtmeegfamopaljaaGreatDoor
open Go Go.RowKit Go.SL
variable {G : Env → Prop}
theorem errV_one (e : Int) : (errV e).oneCell' = true := by
  unfold errV
  split <;> rfl
theorem ev_nilI {P : Program} {ts : List (Nat × Value)} {x : Operand} {t : TypeId} {v : Value} (hx : ev ts x = some (.iface t v)) : Ev P ts (.nilCheck x) (.iface t v) Any := by
  intro a w _ _ _ _ _ k _
  simp [execOp, k.eval hx]
theorem mAppend (p : Addr) (w : World) : (Go.method (Tryz.prog.types.size + Made.depth) 115 (.pointer (some p)) "Append").run Tryz.prog w = .ok (326, .pointer (some p)) w := by kernel_rfl
theorem mSync (p : Addr) (w : World) : (Go.method (Tryz.prog.types.size + Made.depth) 115 (.pointer (some p)) "Sync").run Tryz.prog w = .ok (330, .pointer (some p)) w := by kernel_rfl
theorem mNames (p : Addr) (w : World) : (Go.method (Tryz.prog.types.size + Made.depth) 115 (.pointer (some p)) "Names").run Tryz.prog w = .ok (327, .pointer (some p)) w := by kernel_rfl
theorem mRead (p : Addr) (w : World) : (Go.method (Tryz.prog.types.size + Made.depth) 115 (.pointer (some p)) "Read").run Tryz.prog w = .ok (328, .pointer (some p)) w := by kernel_rfl
abbrev jrnlC (d : Nat) (J : FK.Jn) : Array Value := #[.iface 115 (ptr d), .int .i64 J.n, .bool J.torn, errV J.broken]
abbrev jrnlAt (j d : Nat) (J : FK.Jn) : HP := blk j 254 (jrnlC d J)
theorem itoa_does {n : Nat} (hn : n < 100) : Does Tryz.prog G 200 [.int .i64 n].toArray [] fun v m => v = strV (FK.dec10 n) ∧ m = [] :=
  (Gives.of_calls (φ := fun _ => True) fun _ w _ _ _ => (Tryz.strconv_Itoa_small n hn w).mono fun _ _ ⟨h1, h2⟩ => ⟨h1, by rw [h2]; exact Below.refl _ _⟩).does
theorem dec_size (n : Nat) (hn : n < 100) : (FK.dec10 n).size ≤ 2 := by
  have : ∀ k : Fin 100, (FK.dec10 k.val).size ≤ 2 := by decide +kernel
  exact this ⟨n, hn⟩
set_option maxRecDepth 10000 in
theorem name_does {kind : ByteArray} {n : Nat} (hn : n < 100) (hk : kind.size ≤ 1000) : Does Tryz.prog G 155 [strV kind, .int .i64 n].toArray [] fun v m => v = strV (kind ++ FK.dec10 n) ∧ m = [] := by
  have hd := dec_size n hn
  refine Does.body Tryz.func155 rfl rfl fun E fr hE => ?_
  refine At.app0 ?_
  refine At.seq ?_
  refine At.region ?_
  refine L.as rfl rfl ?_
  refine L.nil ?_
  refine At.then ?_
  refine At.seq ?_
  refine At.region ?_
  refine L.mv rfl rfl ?_
  refine L.mv rfl rfl ?_
  refine L.op rfl (o_call rfl rfl rfl hE (itoa_does hn) (Ent.refl _) ?_)
  rintro v m ⟨rfl, rfl⟩
  refine At.app0 ?_
  refine L.pure rfl (ev_addStr rfl rfl (by omega)) ?_
  refine L.as rfl rfl ?_
  refine L.nil ?_
  refine At.then ?_
  refine At.ret ?_
  exact At.ret1 [] rfl rfl ⟨rfl, rfl⟩ (Ent.refl _)
theorem frame_len (bs : List UInt8) (h : bs.length ≤ 1099511627776) : (FK.frame bs).length ≤ bs.length + 14 := by
  have := encN_le_ten (n := bs.length) (by omega)
  unfold FK.frame FK.sum4
  simp
  omega
structure Roomy (σ : FK.Dsk) : Prop where
  now : FK.vol σ.now ≤ 4611686018427387904
  dur : FK.vol σ.dur + FK.pvol σ.pend ≤ 4611686018427387904
  pend : σ.pend.length ≤ 1000000000000
theorem tell_cases (σ : FK.Dsk) (o : FK.DOp) : ((σ.tell o).1.dur = σ.dur) ∧ ((σ.tell o).1.pend = σ.pend ∨ (σ.tell o).1.pend = σ.pend ++ [o]) ∧ ((σ.tell o).1.now = σ.now ∨ (σ.tell o).1.now = FK.doOp σ.now o) := by
  have hw : σ.writes.1.now = σ.now ∧ σ.writes.1.dur = σ.dur ∧ σ.writes.1.pend = σ.pend := by
    unfold FK.Dsk.writes; split
    · exact ⟨rfl, rfl, rfl⟩
    · split <;> exact ⟨rfl, rfl, rfl⟩
  unfold FK.Dsk.tell
  split
  · exact ⟨hw.2.1, .inr (by show σ.writes.1.pend ++ [o] = _; rw [hw.2.2]), .inl hw.1⟩
  · split
    · exact ⟨hw.2.1, .inl hw.2.2, .inl hw.1⟩
    · split
      · exact ⟨hw.2.1, .inl hw.2.2, .inl hw.1⟩
      · exact ⟨hw.2.1, .inr (by show σ.writes.1.pend ++ [o] = _; rw [hw.2.2]), .inr (by show FK.doOp σ.writes.1.now o = _; rw [hw.1])⟩
set_option maxRecDepth 10000 in
set_option maxHeartbeats 1000000 in
theorem add_does {j d : Nat} {J : FK.Jn} {σ : FK.Dsk} {p : HP} {A : Option Addr} {bs : List UInt8} (c : Nat) (hn : J.n < 100) (hp : Reads p A bs) (hA : A = none → bs = []) (hl : bs.length ≤ 1000000000000) (hr : Roomy σ) : Does Tryz.prog G 95 [ptr j, .slice A bs.length c].toArray [jrnlAt j d J, diskAt d σ, p] fun v m => v = errV (J.add σ (txt (FK.frame bs))).2.2 ∧ m = [jrnlAt j d (J.add σ (txt (FK.frame bs))).1, diskAt d (J.add σ (txt (FK.frame bs))).2.1, p] := by
  have hfl := frame_len bs (by omega)
  have h1 := hr.now
  have h2 := hr.dur
  have h3 := hr.pend
  refine Does.body Tryz.func95 rfl rfl fun E fr hE => ?_
  refine At.app3 ?_
  refine At.seq ?_
  refine At.region ?_
  refine L.as rfl rfl ?_
  refine L.nil ?_
  refine At.then ?_
  refine At.seq ?_
  refine At.seq ?_
  by_cases HB : J.broken = 0
  ·
    have hadd : J.add σ (txt (FK.frame bs)) = if (σ.tell ⟨2, FK.logName J.n, (txt (FK.frame bs))⟩).2 ≠ 0 then ({ J with broken := (σ.tell ⟨2, FK.logName J.n, (txt (FK.frame bs))⟩).2 }, (σ.tell ⟨2, FK.logName J.n, (txt (FK.frame bs))⟩).1, (σ.tell ⟨2, FK.logName J.n, (txt (FK.frame bs))⟩).2) else ({ J with broken := (σ.tell ⟨2, FK.logName J.n, (txt (FK.frame bs))⟩).1.sync.2 }, (σ.tell ⟨2, FK.logName J.n, (txt (FK.frame bs))⟩).1.sync.1, (σ.tell ⟨2, FK.logName J.n, (txt (FK.frame bs))⟩).1.sync.2) := by unfold FK.Jn.add; rw [if_neg (by rw [HB]; simp)]
    refine At.blkAs j #[.iface 115 (ptr d), .int .i64 J.n, .bool J.torn, .nilIface] (by unfold jrnlC errV; rw [if_pos HB]) ?_
    refine At.region ?_
    refine L.mv rfl rfl ?_
    refine L.nc rfl rfl ?_
    refine L.fa 3 rfl rfl rfl ?_
    refine L.ld rfl rfl rfl rfl ?_
    refine L.pure rfl (ev_eqlNil0 rfl rfl) ?_
    refine L.nil ?_
    refine At.then ?_
    refine At.condT rfl ?_
    refine Dr.start rfl ?_
    refine Dr.p 0 rfl rfl (by kernel_rfl) (ev_move rfl) ?_
    refine Dr.p 1 rfl rfl (by kernel_rfl) (ev_move rfl) ?_
    refine Dr.p 2 rfl rfl (by kernel_rfl) (ev_nil rfl) ?_
    refine Dr.p 3 rfl rfl (by kernel_rfl) (ev_field (off := 0) rfl rfl) ?_
    refine Dr.ld 4 rfl rfl (by kernel_rfl) (ev_load1 rfl rfl) (cellIs rfl) ?_
    refine Dr.p 5 rfl rfl (by kernel_rfl) (ev_move rfl) ?_
    refine Dr.p 6 rfl rfl (by kernel_rfl) (ev_nil rfl) ?_
    refine Dr.p 7 rfl rfl (by kernel_rfl) (ev_field (off := 1) rfl rfl) ?_
    refine Dr.ld 8 rfl rfl (by kernel_rfl) (ev_load1 rfl rfl) (cellIs rfl) ?_
    refine Dr.p 10 rfl rfl (by kernel_rfl) (ev_move rfl) ?_
    refine Dr.p 12 rfl rfl (by kernel_rfl) (ev_nilI rfl) ?_
    refine Dr.p 13 rfl rfl (by kernel_rfl) (ev_move rfl) ?_
    refine Dr.run 9 rfl rfl (by kernel_rfl) (o_call rfl rfl rfl hE (name_does (kind := ⟨#[108, 111, 103]⟩) hn (by decide)) (Ent.refl _) ?_)
    rintro v m ⟨rfl, rfl⟩
    refine At.app0 ?_
    refine Dr.kept [false, true] (by kernel_rfl) (Kept.cons (cellIs rfl) Kept.nil) ?_
    refine Dr.run 11 rfl rfl (by kernel_rfl) (o_call rfl rfl rfl hE (framed_does c hp hA (by omega)) (Ent.sel (.tail (.tail .head))) ?_)
    rintro v m rfl
    refine At.app2 ?_
    refine Dr.kept [true] (by kernel_rfl) (Kept.cons (cellIs rfl) Kept.nil) ?_
    refine Dr.run 14 rfl rfl (by kernel_rfl) (o_invoke rfl rfl rfl (mAppend ⟨d, 0, none⟩) rfl hE (append_does (name := FK.logName J.n) (by omega) (by omega) (by omega)) (Ent.sel2 (.tail (.tail (.tail .head))) .head) ?_)
    rintro v m ⟨rfl, rfl⟩
    refine At.app1 ?_
    obtain ⟨ω, hω⟩ : ∃ ω, ω = σ.tell ⟨2, FK.logName J.n, (txt (FK.frame bs))⟩ := ⟨_, rfl⟩
    have hcases := tell_cases σ ⟨2, FK.logName J.n, (txt (FK.frame bs))⟩
    rw [← hω] at hcases hadd ⊢
    obtain ⟨σ1, e1⟩ := ω
    have htx : (txt (FK.frame bs)).size = (FK.frame bs).length := txt_size _
    obtain ⟨hc1, hc2, -⟩ := hcases
    have hpv : FK.pvol (σ.pend ++ [⟨2, FK.logName J.n, (txt (FK.frame bs))⟩]) = FK.pvol σ.pend + (FK.frame bs).length := by simp [FK.pvol, htx]
    have hq1 : FK.vol σ1.dur + FK.pvol σ1.pend ≤ 9223372036854775807 := by
      simp only at hc1 hc2
      rw [hc1]
      rcases hc2 with h | h <;> rw [h]
      · omega
      · rw [hpv]; omega
    have hq2 : σ1.pend.length ≤ 1099511627776 := by
      simp only at hc2
      rcases hc2 with h | h <;> rw [h]
      · omega
      · rw [List.length_append]; simp; omega
    refine Dr.kept [true] (by kernel_rfl) (Kept.cons (cellIs rfl) Kept.nil) ?_
    refine Dr.p 15 rfl rfl (by kernel_rfl) (ev_nil rfl) ?_
    refine Dr.p 16 rfl rfl (by kernel_rfl) (ev_field (off := 3) rfl rfl) ?_
    refine Dr.run 17 rfl rfl (by kernel_rfl) (o_store1 rfl rfl rfl rfl (errV_one _) (by show 3 < 4; omega) ?_)
    refine Dr.kept [false] (by kernel_rfl) Kept.nil ?_
    refine Dr.done (by kernel_rfl) ?_
    refine At.then ?_
    refine At.seq ?_
    refine At.seq ?_
    by_cases HE : e1 = 0
    ·
      refine At.blkAs j #[.iface 115 (ptr d), .int .i64 J.n, .bool J.torn, .nilIface] (by show (#[_, _, _, errV e1] : Array Value) = _; unfold errV; rw [if_pos HE]) ?_
      have ht : J.add σ (txt (FK.frame bs)) = ({ J with broken := σ1.sync.2 }, σ1.sync.1, σ1.sync.2) := by rw [hadd, if_neg (fun h => h HE)]
      refine At.region ?_
      refine L.mv rfl rfl ?_
      refine L.nc rfl rfl ?_
      refine L.fa 3 rfl rfl rfl ?_
      refine L.ld rfl rfl rfl rfl ?_
      refine L.pure rfl (ev_eqlNil0 rfl rfl) ?_
      refine L.nil ?_
      refine At.then ?_
      refine At.condT rfl ?_
      refine At.region ?_
      refine L.mv rfl rfl ?_
      refine L.mv rfl rfl ?_
      refine L.nc rfl rfl ?_
      refine L.fa 0 rfl rfl rfl ?_
      refine L.ld rfl rfl rfl rfl ?_
      refine L.op rfl (o_invoke rfl rfl rfl (mSync ⟨d, 0, none⟩) rfl hE (sync_does hq1 hq2) (Ent.sel (.tail .head)) ?_)
      rintro v m ⟨rfl, rfl⟩
      refine At.app1 ?_
      refine L.nc rfl rfl ?_
      refine L.fa 3 rfl rfl rfl ?_
      refine L.st rfl rfl rfl (errV_one _) (by show 3 < 4; omega) ?_
      refine L.nil ?_
      refine At.then ?_
      refine At.seq ?_
      refine At.region ?_
      refine L.mv rfl rfl ?_
      refine L.nc rfl rfl ?_
      refine L.fa 3 rfl rfl rfl ?_
      refine L.ld rfl rfl rfl rfl ?_
      refine L.as rfl rfl ?_
      refine L.nil ?_
      refine At.then ?_
      refine At.ret ?_
      rw [ht]
      exact At.ret1 [jrnlAt j d { J with broken := σ1.sync.2 }, diskAt d σ1.sync.1, p] rfl rfl ⟨rfl, rfl⟩ (Ent.refl _)
    ·
      refine At.blkAs j #[.iface 115 (ptr d), .int .i64 J.n, .bool J.torn, .iface 48 (.int .i64 e1)] (by show (#[_, _, _, errV e1] : Array Value) = _; unfold errV; rw [if_neg HE]) ?_
      have ht : J.add σ (txt (FK.frame bs)) = ({ J with broken := e1 }, σ1, e1) := by rw [hadd, if_pos HE]
      refine At.region ?_
      refine L.mv rfl rfl ?_
      refine L.nc rfl rfl ?_
      refine L.fa 3 rfl rfl rfl ?_
      refine L.ld rfl rfl rfl rfl ?_
      refine L.pure rfl (ev_eqlNil rfl rfl) ?_
      refine L.nil ?_
      refine At.then ?_
      refine At.condF rfl ?_
      refine At.skip ?_
      refine At.then ?_
      refine At.seq ?_
      refine At.region ?_
      refine L.mv rfl rfl ?_
      refine L.nc rfl rfl ?_
      refine L.fa 3 rfl rfl rfl ?_
      refine L.ld rfl rfl rfl rfl ?_
      refine L.as rfl rfl ?_
      refine L.nil ?_
      refine At.then ?_
      refine At.ret ?_
      rw [ht]
      refine At.ret1 [jrnlAt j d { J with broken := e1 }, diskAt d σ1, p] rfl rfl ⟨(if_neg HE).symm, rfl⟩ ?_
      show Ent _ (blk j 254 #[_, _, _, errV e1] :: diskAt d σ1 :: p :: fr)
      unfold errV
      rw [if_neg HE]
      exact Ent.refl _
  ·
    have hadd : J.add σ (txt (FK.frame bs)) = (J, σ, J.broken) := by unfold FK.Jn.add; rw [if_pos HB]
    rw [hadd]
    refine At.blkAs j #[.iface 115 (ptr d), .int .i64 J.n, .bool J.torn, .iface 48 (.int .i64 J.broken)] (by unfold jrnlC errV; rw [if_neg HB]) ?_
    refine At.region ?_
    refine L.mv rfl rfl ?_
    refine L.nc rfl rfl ?_
    refine L.fa 3 rfl rfl rfl ?_
    refine L.ld rfl rfl rfl rfl ?_
    refine L.pure rfl (ev_eqlNil rfl rfl) ?_
    refine L.nil ?_
    refine At.then ?_
    refine At.condF rfl ?_
    refine At.skip ?_
    refine At.then ?_
    refine At.seq ?_
    refine At.seq ?_
    refine At.region ?_
    refine L.mv rfl rfl ?_
    refine L.nc rfl rfl ?_
    refine L.fa 3 rfl rfl rfl ?_
    refine L.ld rfl rfl rfl rfl ?_
    refine L.pure rfl (ev_eqlNil rfl rfl) ?_
    refine L.nil ?_
    refine At.then ?_
    refine At.condF rfl ?_
    refine At.skip ?_
    refine At.then ?_
    refine At.seq ?_
    refine At.region ?_
    refine L.mv rfl rfl ?_
    refine L.nc rfl rfl ?_
    refine L.fa 3 rfl rfl rfl ?_
    refine L.ld rfl rfl rfl rfl ?_
    refine L.as rfl rfl ?_
    refine L.nil ?_
    refine At.then ?_
    refine At.ret ?_
    refine At.ret1 [jrnlAt j d J, diskAt d σ, p] rfl rfl ⟨(if_neg HB).symm, rfl⟩ ?_
    show Ent _ (blk j 254 #[_, _, _, errV J.broken] :: diskAt d σ :: p :: fr)
    unfold errV
    rw [if_neg HB]
    exact Ent.refl _
end Go.Proofs.YtmeegfamopaljaaGreatDoor

namespace FK
theorem edges_in {len : Nat} : ∀ (l : List Int) (p : Int), -1 ≤ p → EdgesOk len p l → ∀ x ∈ l, 0 ≤ x ∧ x < len
  | [], _, _, _ => by intro x hx; simp at hx
  | y :: l, p, hp, h => by
    intro x hx
    obtain ⟨h1, h2, h3⟩ := h
    rcases List.mem_cons.1 hx with rfl | hx
    · omega
    · exact edges_in l y (by omega) h3 x hx
theorem Fit.after {f : Flow} (h : Fit f) : ∀ nd ∈ f.nodes, ∀ x ∈ nd.after, 0 ≤ x ∧ x < (f.nodes.length : Int) := fun nd hnd x hx => by
  obtain ⟨i, hi⟩ := List.getElem?_of_mem hnd
  exact edges_in _ _ (by omega) (h.nodes i nd (lt_of_some hi) hi).2 x hx
theorem Fit.node {f : Flow} (h : Fit f) {nd : Node} (hnd : nd ∈ f.nodes) : NodeOk nd := by
  obtain ⟨i, hi⟩ := List.getElem?_of_mem hnd
  exact (h.nodes i nd (lt_of_some hi) hi).1
theorem waitOf_le {nd : Node} (h : NodeOk nd) (k : Int) (seed : Nat) : 0 ≤ waitOf nd.base nd.cap nd.jitter k seed ∧ waitOf nd.base nd.cap nd.jitter k seed ≤ 2097152 := by
  obtain ⟨_, _, _, _, ⟨b1, b2⟩, ⟨c1, c2⟩, j1, j2⟩ := h
  have hm : 0 ≤ (seed : Int) % (nd.jitter + 1) ∧ (seed : Int) % (nd.jitter + 1) < nd.jitter + 1 := ⟨Int.emod_nonneg _ (by omega), Int.emod_lt_of_pos _ (by omega)⟩
  unfold waitOf
  have hp : 0 ≤ nd.base * 2 ^ (k.toNat - 1) := Int.mul_nonneg (by omega) (Int.pow_nonneg (by omega))
  split
  · omega
  · split
    · have : min nd.cap (nd.base * 2 ^ (k.toNat - 1)) ≤ nd.cap := Int.min_le_left _ _
      have : 0 ≤ min nd.cap (nd.base * 2 ^ (k.toNat - 1)) := by omega
      omega
    · omega
end FK
namespace Go.Proofs.YtmeegfamopaljaaGreatDoor
open Go Go.RowKit Go.SL
theorem rest_wait (ba ca ji k seed : Int) : restOf ba ca ji k seed = FK.waitOf ba ca ji k seed := rfl
theorem fit_small {f : FK.Flow} (h : FK.Fit f) : ∀ n ∈ f.nodes, (i64 n.budget ∧ i64 n.close ∧ i64 n.beat ∧ i64 n.base ∧ i64 n.cap ∧ i64 n.jitter) ∧ ∀ x ∈ n.after, i64 x := fun n hn => by
  obtain ⟨a1, a2, ⟨b1, b2⟩, ⟨c1, c2⟩, ⟨d1, d2⟩, ⟨e1, e2⟩, f1, f2⟩ := h.node hn
  have h12 := h.head.2.2
  refine ⟨⟨?_, ?_, ?_, ?_, ?_, ?_⟩, fun x hx => ?_⟩
  all_goals first | (unfold i64; omega) | (have := h.after n hn x hx; unfold i64; omega)
theorem fails_ok {e : Nat} {p : EA} {S : FK.En} (h : FK.Ok S) {id k : Nat} {wh : Int} {R : FK.Rn} {s : FK.Sp} (hR : S.getR id = some R) (hs : R.steps[k]? = some s) (hsets : S.sets + 1 < 9223372036854775807) (hends : S.ends < 9223372036854775807) : Does Tryz.prog Good 234 [ptr e, plV ⟨id, (k : Int), wh⟩].toArray [engX e p S] fun v m => v = .tuple #[] ∧ m = [engX e p (S.failed id k)] := by
  obtain ⟨nd, hn, hp⟩ := h.node hR hs
  have hr := h.run id R hR
  have hnd := List.mem_of_getElem? hn
  have hok := hr.fl.node hnd
  have h12 := hr.fl.head.2.2
  have hw := FK.waitOf_le hok s.tries S.seed
  have hq := h.queueLe
  have ht := h.tmsLe
  obtain ⟨a1, a2, ⟨b1, b2⟩, ⟨c1, c2⟩, ⟨d1, d2⟩, ⟨e1, e2⟩, f1, f2⟩ := hok
  refine (fails_does (G := Good) (wh := wh) (fun E w hE hw => hE.tab w hw) hR hs hn hr.len h12 hr.fl.after (fit_small hr.fl) (by omega) (by omega) hends h.now hsets h.seed d1 e1 e2 f1 f2 (by rw [rest_wait]; omega)).mono ?_
  rintro v m ⟨rfl, ⟨h1, rfl⟩ | ⟨h1, left, T, ho, hst, rfl⟩⟩
  · refine ⟨_, ⟨rfl, rfl⟩, ?_⟩
    rw [FK.failed_eq hR hs hn, if_pos h1]
    exact Ent.refl _
  · refine ⟨_, ⟨rfl, rfl⟩, ?_⟩
    rw [FK.failed_eq hR hs hn, if_neg (by omega), FK.dies_eq h hR ho hst]
    exact Ent.refl _
theorem poll_ok {e : Nat} {p : EA} {S : FK.En} (h : FK.Ok S) {id k : Nat} {q : List FK.Pl} {R : FK.Rn} {s : FK.Sp} {nd : FK.Node} (hq : S.queue = ⟨id, (k : Int), 0⟩ :: q) (hR : S.getR id = some R) (hs : R.steps[k]? = some s) (hn : R.fl.nodes[k]? = some nd) (hsets : S.sets + 1 < 9223372036854775807) (htok : S.lastToken < 9223372036854775807) : Does Tryz.prog Good 101 [ptr e].toArray [engX e p S] fun v m => v = .tuple #[taskV id k (s.tries + 1) (S.lastToken + 1), .bool true] ∧ m = [engX e p (S.hand ⟨id, (k : Int), 0⟩ q R s nd)] := by
  have hp := (h.run id R hR).sp k s nd hs hn
  have ht := h.tmsLe
  obtain ⟨a1, a2, ⟨b1, b2⟩, ⟨c1, c2⟩, _⟩ := (h.run id R hR).fl.node (List.mem_of_getElem? hn)
  have h1 := hp.tr0
  have h2 := hp.trb
  exact poll1_does hq hR hs hn h.now (by omega) (by omega) (by omega) hsets (by omega) htok (fun t ht => (h.tlow t ht).2) h1 (by omega)
theorem complete_ok {e : Nat} {p : EA} {S : FK.En} (h : FK.Ok S) {t : Nat} {P : FK.Pl} (ht : (S.tasks.find? (·.1 == t)).map (·.2) = some P) (hends : S.ends < 9223372036854775807) : Does Tryz.prog Good 207 [ptr e, natV t].toArray [engX e p S] fun v m => v = .tuple #[] ∧ m = [engX e p (S.complete t)] := by
  obtain ⟨id, k, R, s, n, rfl, hR, hs, hn, _⟩ := h.find ht
  have hr := h.run id R hR
  have hq := h.queueLe
  have htm := h.tmsLe
  have h12 := hr.fl.head.2.2
  exact complete_does ht hR hs hr.len hr.fl.after (by omega) (by omega) (by omega) hends
theorem cancel_ok {e : Nat} {p : EA} {S : FK.En} (h : FK.Ok S) {id : Nat} {R : FK.Rn} (hR : S.getR id = some R) (hends : S.ends < 9223372036854775807) : Does Tryz.prog Good 209 [ptr e, natV id].toArray [engX e p S] fun v m => v = .tuple #[] ∧ m = [engX e p (S.finish id 4)] := by
  have hr := h.run id R hR
  have hq := h.queueLe
  have htm := h.tmsLe
  have h12 := hr.fl.head.2.2
  have hl := hr.len
  exact cancel_does hR (by omega) (by omega) (by omega) hends
theorem finish_ok {e : Nat} {p : EA} {S : FK.En} (h : FK.Ok S) {id : Nat} {R : FK.Rn} (st : Int) (hR : S.getR id = some R) (hends : S.ends < 9223372036854775807) : Does Tryz.prog Good 235 [ptr e, natV id, .int .i64 st].toArray [engX e p S] fun v m => v = .tuple #[] ∧ m = [engX e p (S.finish id st)] := by
  have hr := h.run id R hR
  have hq := h.queueLe
  have htm := h.tmsLe
  have h12 := hr.fl.head.2.2
  have hl := hr.len
  exact finish_does hR (by omega) (by omega) (by omega) hends
theorem queueOk {S : FK.En} (h : FK.Ok S) : S.QueueOk := fun p hp => by
  obtain ⟨id, k, s, rfl, h1, h2⟩ := (h.queue p).1 hp
  obtain ⟨R, hR, hs⟩ := FK.stp_get h1
  obtain ⟨n, hn, hsp⟩ := h.node hR hs
  obtain ⟨a1, a2, _⟩ := (h.run id R hR).fl.node (List.mem_of_getElem? hn)
  have h3 := hsp.tr0
  have h4 := hsp.trb
  exact ⟨by show (0 : Int) ≤ (k : Int); omega, R, s, hR, by rw [Int.toNat_natCast]; exact hs, h3, by omega⟩
theorem queue_ok {e : Nat} {p : EA} {S : FK.En} (h : FK.Ok S) : Does Tryz.prog Good 98 [ptr e].toArray [engX e p S] fun v m => m = [engX e p S, row 55 4 v S.queue.length (qV S S.queue)] :=
  queue_does (queueOk h) (by have := h.queueLe; omega)
theorem query_ok {e : Nat} {p : EA} {S : FK.En} (h : FK.Ok S) {id : Nat} {R : FK.Rn} (hR : S.getR id = some R) : Does Tryz.prog Good 105 [ptr e, natV id].toArray [engX e p S] fun v m => ∃ v2 v3, v = .tuple #[.agg (infoL id R.state v2 v3).toArray, .bool true] ∧ m = [engX e p S, intsAt v2 (R.steps.map (·.state)), intsAt v3 (R.steps.map (·.tries))] := by
  have hr := h.run id R hR
  have h12 := hr.fl.head.2.2
  have hl := hr.len
  exact query1_does hR (by omega)
set_option maxRecDepth 10000 in
theorem fail_ok {e : Nat} {p : EA} {S : FK.En} (h : FK.Ok S) {t : Nat} {P : FK.Pl} (ht : (S.tasks.find? (·.1 == t)).map (·.2) = some P) (hsets : S.sets + 1 < 9223372036854775807) (hends : S.ends < 9223372036854775807) : Does Tryz.prog Good 208 [ptr e, natV t].toArray [engX e p S] fun v m => v = .tuple #[] ∧ m = [engX e p (S.fail t)] := by
  obtain ⟨id, k, R, s, n, rfl, hR, hs, hn, _⟩ := h.find ht
  rw [FK.fail_eq ht]
  refine Does.body Tryz.func208 rfl rfl fun E fr hE => ?_
  refine At.app1 ?_
  refine At.region ?_
  refine L.mv rfl rfl ?_
  refine L.mv rfl rfl ?_
  refine L.nc rfl rfl ?_
  refine L.fa 2 rfl rfl rfl ?_
  refine L.val rfl (ev_load1 (v := .map (some p.tm)) rfl rfl) (eng_cell fun _ _ _ => rfl) ?_
  refine L.mv rfl rfl ?_
  refine L.val rfl (ev_vget (m := taskM S) rfl natKey rfl rfl (task_v ht)) eng_tasks ?_
  refine L.op rfl (o_call rfl rfl rfl hE (fails_ok h hR hs hsets hends) (Ent.refl _) ?_)
  rintro v m ⟨rfl, rfl⟩
  refine At.app1 ?_
  refine L.nil ?_
  exact At.end0 [_] rfl ⟨rfl, rfl⟩ (Ent.refl _)
end Go.Proofs.YtmeegfamopaljaaGreatDoor

namespace FK
end FK
namespace Go.Proofs.YtmeegfamopaljaaGreatDoor
open Go Go.RowKit Go.SL
set_option maxRecDepth 10000 in
set_option maxHeartbeats 1000000 in
theorem tick_ok {e : Nat} {p : EA} {S : FK.En} (h : FK.Ok S) {n : Nat} (hn : n < 18446744073709551616) (hsets : S.sets ≤ 4611686018427387904) (hends : S.ends ≤ 4611686018427387904) : Does Tryz.prog Good 210 [ptr e, natV n].toArray [engX e p S] fun v m => v = .tuple #[] ∧ ∃ U, FK.Ticks (S.later n) S U ∧ m = [engX e p U] := by
  have hmass := h.massLe
  have hnow := h.now
  obtain ⟨up, hup⟩ : ∃ up, up = S.later n := ⟨_, rfl⟩
  have hup' : up = min (S.now + n) 4611686018427387904 := hup
  rw [← hup]
  obtain ⟨q, hq⟩ : ∃ q, q = (S.now + n) % 18446744073709551616 := ⟨_, rfl⟩
  refine Does.body Tryz.func210 rfl rfl fun E fr hE => ?_
  refine At.app1 ?_
  refine At.seq ?_
  refine At.region ?_
  refine L.mv rfl rfl ?_
  refine L.nc rfl rfl ?_
  refine L.fa 6 rfl rfl rfl ?_
  refine L.val rfl (ev_load1 rfl rfl) (eng_cell fun _ _ _ => rfl) ?_
  refine L.op rfl (o_call rfl rfl rfl hE now_eng (Ent.refl _) ?_)
  rintro v m ⟨rfl, rfl⟩
  refine At.app1 ?_
  refine L.as rfl rfl ?_
  refine L.nil ?_
  refine At.then ?_
  refine At.seq ?_
  refine At.region ?_
  refine L.mv rfl rfl ?_
  refine L.mv rfl rfl ?_
  refine L.pure rfl (ev_add (r := (q : Int)) rfl rfl (by rw [mu64]; omega)) ?_
  refine L.as rfl rfl ?_
  refine L.nil ?_
  refine At.then ?_
  refine At.seq (At.cut (X := Nat) (fun y => [(5, .int .u64 y), (0, ptr e)]) (fun _ => engX e p S :: fr) (fun y => min y 4611686018427387904 = up) ?_ ?_)
  ·
    refine At.seq ?_
    refine At.region ?_
    refine L.mv rfl rfl ?_
    refine L.mv rfl rfl ?_
    refine L.pure rfl (ev_lss rfl rfl rfl) ?_
    refine L.nil ?_
    refine At.then ?_
    refine At.condD rfl (fun c19 => ?_) (fun c19 => ?_)
    ·
      refine At.region ?_
      refine L.as rfl rfl ?_
      refine L.nil ?_
      exact At.meet 4611686018427387904 (by omega) ⟨rfl, rfl, trivial⟩ (Ent.refl _)
    ·
      refine At.skip ?_
      exact At.meet q (by rw [hup']; omega) ⟨rfl, rfl, trivial⟩ (Ent.refl _)
  intro y hy
  refine At.seq ?_
  refine At.region ?_
  refine L.mv rfl rfl ?_
  refine L.pure rfl (ev_min (r := (up : Int)) rfl rfl (by omega)) ?_
  refine L.as rfl rfl ?_
  refine L.nil ?_
  refine At.then ?_
  refine At.block ?_
  refine At.loop (X := FK.En) (fun _ => [(5, .int .u64 up), (0, ptr e)]) (fun T => engX e p T :: fr) (fun T => FK.Ok T ∧ T.now ≤ up ∧ T.sets + T.mass ≤ S.sets + S.mass ∧ T.ends + T.mass ≤ S.ends + S.mass ∧ ∀ U, FK.Ticks up T U → FK.Ticks up S U) (fun T => T.mass) S ⟨h, by omega, Nat.le_refl _, Nat.le_refl _, fun _ h => h⟩ ⟨rfl, rfl, trivial⟩ (Ent.refl _) ?_
  rintro T ⟨hT, hTn, hTs, hTe, hTU⟩
  replace hTn : T.now ≤ up := hTn
  refine At.block ?_
  refine At.seq ?_
  by_cases HD : ∀ y ∈ T.tms, up < y.2
  ·
    refine At.region ?_
    refine L.mv rfl rfl ?_
    refine L.nc rfl rfl ?_
    refine L.fa 6 rfl rfl rfl ?_
    refine L.val rfl (ev_load1 rfl rfl) (eng_cell fun _ _ _ => rfl) ?_
    refine L.mv rfl rfl ?_
    refine L.op rfl (o_call rfl rfl rfl hE (pop_eng up hTn (by omega) (by omega) (by have := hT.tmsLe; omega)) (Ent.refl _) ?_)
    rintro v m hP
    obtain ⟨rfl, rfl⟩ : v = .tuple #[plV ⟨0, 0, 0⟩, .int .u64 0, .bool false] ∧ m = [engX e p { T with now := up }] := by
      rcases hP with ⟨x, tms', hm, hle, _, _⟩ | ⟨_, h1, h2⟩
      · have := HD x hm.mem; omega
      · exact ⟨h1, h2⟩
    refine At.app1 ?_
    refine L.mv rfl rfl ?_
    refine L.ex rfl rfl rfl ?_
    refine L.ex rfl rfl rfl ?_
    refine L.ex rfl rfl rfl ?_
    refine L.op rfl (o_alloc (z := .agg #[.int .u64 0, .int .i64 0, .int .i64 0]) rfl rfl fun b6 => ?_)
    refine L.op rfl (o_storeN (vs := plL ⟨0, 0, 0⟩) rfl (m := 3) rfl rfl rfl rfl (by simp [Value.oneCell']) (by show 0 + 3 ≤ 3; omega) ?_)
    refine L.as rfl rfl ?_
    refine L.as rfl rfl ?_
    refine L.nil ?_
    refine At.then ?_
    refine At.block ?_
    refine At.seq ?_
    refine At.region ?_
    refine L.mv rfl rfl ?_
    refine L.pure rfl (ev_not rfl rfl) ?_
    refine L.as rfl rfl ?_
    refine L.nil ?_
    refine At.then ?_
    refine At.condT rfl ?_
    refine At.ret ?_
    refine At.inBlockRet (At.inBlockRet (At.roundRet (At.inBlockRet ?_)))
    exact At.end0 [_] rfl ⟨rfl, _, hTU _ (.done HD), rfl⟩ Ent.drop
  ·
    refine At.region ?_
    refine L.mv rfl rfl ?_
    refine L.nc rfl rfl ?_
    refine L.fa 6 rfl rfl rfl ?_
    refine L.val rfl (ev_load1 rfl rfl) (eng_cell fun _ _ _ => rfl) ?_
    refine L.mv rfl rfl ?_
    refine L.op rfl (o_call rfl rfl rfl hE (pop_eng up hTn (by omega) (by omega) (by have := hT.tmsLe; omega)) (Ent.refl _) ?_)
    rintro v m hP
    obtain ⟨x, tms', hm, hle, rfl, rfl⟩ : ∃ (x : FK.KD) (tms' : List FK.KD), FK.IsMin T.tms x tms' ∧ x.2 ≤ up ∧ v = .tuple #[plV x.1, .int .u64 x.2, .bool true] ∧ m = [engX e p { T with now := x.2, tms := tms' }] := by
      rcases hP with h | ⟨h1, _⟩
      · exact h
      · exact absurd h1 HD
    refine At.app1 ?_
    refine L.mv rfl rfl ?_
    refine L.ex rfl rfl rfl ?_
    refine L.ex rfl rfl rfl ?_
    refine L.ex rfl rfl rfl ?_
    refine L.op rfl (o_alloc (z := .agg #[.int .u64 0, .int .i64 0, .int .i64 0]) rfl rfl fun b6 => ?_)
    refine L.op rfl (o_storeN (vs := plL x.1) rfl (m := 3) rfl rfl rfl rfl (by simp [Value.oneCell']) (by show 0 + 3 ≤ 3; omega) ?_)
    refine L.as rfl rfl ?_
    refine L.as rfl rfl ?_
    refine L.nil ?_
    refine At.then ?_
    refine At.block ?_
    refine At.seq ?_
    refine At.blkAs b6 (plL x.1).toArray rfl ?_
    obtain ⟨hp1, hp2, R, hR, hat⟩ := hT.pop hm
    obtain ⟨W, hW⟩ : ∃ W : FK.En, W = { T with now := x.2, tms := tms' } := ⟨_, rfl⟩
    have hWm : W.mass = T.mass := by rw [hW]; rfl
    have hWs : W.sets = T.sets := by rw [hW]
    have hWe : W.ends = T.ends := by rw [hW]
    have hRW : W.getR x.1.run = some R := by rw [hW]; exact hR
    have hnoW : ∀ y ∈ W.tms, y.1 ≠ x.1 := by rw [hW]; exact hp2
    rw [← hW] at hp1 ⊢
    have hless := hp1.due_less hRW hat
    have hdue := hp1.due hRW hat hnoW
    have hstep : ∀ U, FK.Ticks up (W.due x.1) U → FK.Ticks up S U := fun U hU => hTU U (.step hm hle (hW ▸ hU))
    have hl1 := hless.mass
    have hl2 := hless.sets
    have hl3 := hless.ends
    have hnow2 : (W.due x.1).now ≤ up := by rw [hless.now, hW]; exact hle
    refine At.region ?_
    refine L.mv rfl rfl ?_
    refine L.pure rfl (ev_not rfl rfl) ?_
    refine L.as rfl rfl ?_
    refine L.nil ?_
    refine At.then ?_
    refine At.condF rfl ?_
    refine At.seq ?_
    refine At.region ?_
    refine L.fa 2 rfl rfl rfl ?_
    refine L.ld rfl rfl rfl rfl ?_
    refine L.pure rfl (ev_eql rfl rfl rfl) ?_
    refine L.as rfl rfl ?_
    refine L.nil ?_
    refine At.then ?_
    refine At.condD rfl (fun c38 => ?_) (fun c38 => ?_)
    ·
      obtain ⟨hpe, hde⟩ : x.1 = ⟨x.1.run, -1, 0⟩ ∧ W.due x.1 = W.finish x.1.run 5 := by
        rcases FK.due_cases hRW hat with h | ⟨k, s, hs, ⟨h1, _, _⟩ | ⟨h1, _, _⟩⟩
        · exact h
        · rw [h1] at c38; exact absurd (show (1 : Int) = 0 from c38) (by decide)
        · rcases h1 with h1 | h1
          · rw [h1] at c38; exact absurd (show (1 : Int) = 0 from c38) (by decide)
          · rw [h1] at c38; exact absurd (show (2 : Int) = 0 from c38) (by decide)
      refine At.region ?_
      refine L.mv rfl rfl ?_
      refine L.fa 0 rfl rfl rfl ?_
      refine L.ld rfl rfl rfl rfl ?_
      refine L.op rfl (o_call rfl rfl rfl hE (finish_ok hp1 5 hRW (by omega)) (Ent.sel (.tail .head)) ?_)
      rintro v m ⟨rfl, rfl⟩
      refine At.app1 ?_
      refine L.nil ?_
      refine At.inBlock (At.inBlock ?_)
      exact At.round (W.due x.1) ⟨hdue, hnow2, by omega, by omega, hstep⟩ (by omega) ⟨rfl, rfl, trivial⟩ (by rw [hde]; exact Ent.cons Ent.drop)
    ·
      obtain ⟨k, s, hs, hpk, hde⟩ : ∃ (k : Nat) (s : FK.Sp), R.steps[k]? = some s ∧ x.1.node = (k : Int) ∧ ((s.state = 4 ∧ W.due x.1 = W.ready x.1.run k) ∨ (s.state = 3 ∧ W.due x.1 = W.failed x.1.run k)) := by
        rcases FK.due_cases hRW hat with ⟨h1, _⟩ | ⟨k, s, hs, ⟨h1, h2, h3⟩ | ⟨h1, h2, h3⟩⟩
        · rw [h1] at c38; exact absurd rfl c38
        · exact ⟨k, s, hs, by rw [h1], .inl ⟨h2, h3⟩⟩
        · exact ⟨k, s, hs, by rcases h1 with h1 | h1 <;> rw [h1], .inr ⟨h2, h3⟩⟩
      obtain ⟨⟨id, nd, wh⟩, at_⟩ := x
      simp only at hpk hRW hde hl1 hl2 hl3 hnow2 hdue hstep
      subst hpk
      refine At.seq ?_
      refine Dr.start rfl ?_
      refine Dr.p 0 rfl rfl (by kernel_rfl) (ev_move rfl) ?_
      refine Dr.p 1 rfl rfl (by kernel_rfl) (ev_nil rfl) ?_
      refine Dr.p 2 rfl rfl (by kernel_rfl) (ev_field (off := 1) rfl rfl) ?_
      refine Dr.ld 3 rfl rfl (by kernel_rfl) (ev_load1 rfl rfl) (eng_cell fun _ _ _ => rfl) ?_
      refine Dr.p 4 rfl rfl (by kernel_rfl) (ev_field (off := 0) rfl rfl) ?_
      refine Dr.ld 5 rfl rfl (by kernel_rfl) (ev_load1 rfl rfl) (cellIs rfl) ?_
      refine Dr.ld 6 rfl rfl (by kernel_rfl) (ev_vget (a := id) (v := ptr (p.fb id)) rfl natKey rfl rfl (runs_get hRW)) eng_runs ?_
      refine Dr.p 7 rfl rfl (by kernel_rfl) (ev_field (off := 1) rfl rfl) ?_
      refine Dr.ld 8 rfl rfl (by kernel_rfl) (ev_load1 rfl rfl) (cellIs rfl) ?_
      refine Dr.run 9 rfl rfl (by kernel_rfl) (o_slice1 rfl rfl rfl rfl rfl rfl fun b56 => ?_)
      refine Dr.kept [true, true, true, true] (by kernel_rfl) (Kept.cons (cellIs rfl) (Kept.cons eng_runs (Kept.cons (cellIs rfl) (Kept.cons (eng_cell fun _ _ _ => rfl) Kept.nil)))) ?_
      refine Dr.run 10 rfl rfl (by kernel_rfl) (o_call rfl rfl rfl hE (is_does [4] (some ⟨b56, 0, none⟩) 1 hRW hs) ((Ent.sel2 (.tail (.tail .head)) .head).trans (Ent.cons (ent_states (xs := [4]) (show 1 ≤ 9223372036854775807 by omega)))) ?_)
      rintro v m ⟨rfl, rfl⟩
      refine At.app1 ?_
      refine Dr.kept [false, false, true, true] (by kernel_rfl) (Kept.cons (cellIs rfl) (Kept.cons (eng_cell fun _ _ _ => rfl) Kept.nil)) ?_
      refine Dr.p 11 rfl rfl (by kernel_rfl) (ev_assign rfl) ?_
      refine Dr.done (by kernel_rfl) ?_
      refine At.then ?_
      refine At.condD rfl (fun c46 => ?_) (fun c46 => ?_)
      ·
        have h4 : s.state = 4 := by simpa using c46
        have hde2 : W.due ⟨id, (k : Int), wh⟩ = W.ready id k := by rcases hde with h | h; exact h.2; omega
        refine At.region ?_
        refine L.mv rfl rfl ?_
        refine L.val rfl (ev_loadN (vs := plL ⟨id, (k : Int), wh⟩) rfl rfl rfl rfl) (rowAll rfl) ?_
        refine L.op rfl (o_call rfl rfl rfl hE (ready_does (wh := wh) hRW hs (by have := hp1.queueLe; omega)) (Ent.refl _) ?_)
        rintro v m ⟨rfl, rfl⟩
        refine At.app1 ?_
        refine L.nil ?_
        refine At.inBlock (At.inBlock ?_)
        exact At.round (W.due ⟨id, (k : Int), wh⟩) ⟨hdue, hnow2, by omega, by omega, hstep⟩ (by omega) ⟨rfl, rfl, trivial⟩ (by rw [hde2]; exact Ent.cons Ent.drop)
      ·
        have h4 : ¬ s.state = 4 := by simpa using c46
        have hde2 : W.due ⟨id, (k : Int), wh⟩ = W.failed id k := by rcases hde with h | h; omega; exact h.2
        refine At.region ?_
        refine L.mv rfl rfl ?_
        refine L.val rfl (ev_loadN (vs := plL ⟨id, (k : Int), wh⟩) rfl rfl rfl rfl) (rowAll rfl) ?_
        refine L.op rfl (o_call rfl rfl rfl hE (fails_ok hp1 (wh := wh) hRW hs (by omega) (by omega)) (Ent.refl _) ?_)
        rintro v m ⟨rfl, rfl⟩
        refine At.app1 ?_
        refine L.nil ?_
        refine At.inBlock (At.inBlock ?_)
        exact At.round (W.due ⟨id, (k : Int), wh⟩) ⟨hdue, hnow2, by omega, by omega, hstep⟩ (by omega) ⟨rfl, rfl, trivial⟩ (by rw [hde2]; exact Ent.cons Ent.drop)
end Go.Proofs.YtmeegfamopaljaaGreatDoor

namespace FK
def entryB (op n : Nat) : List UInt8 := UInt8.ofNat op :: encN n
end FK
namespace Go.Proofs.YtmeegfamopaljaaGreatDoor
open Go Go.RowKit Go.SL
abbrev fkV (f e : Nat) (jv : Value) : HP := blk f 171 #[ptr e, jv]
abbrev fkB (f e j : Nat) : HP := fkV f e (ptr j)
theorem ent_bytes {b : Nat} {bs : List UInt8} {r : List HP} (h : bs.length ≤ maxLen) : Ent (blk b 5 (bytesV bs).toArray :: r) (bytesAt (.slice (some ⟨b, 0, none⟩) bs.length bs.length) bs :: r) :=
  Ent.closeRow (Nat.le_refl _) h (by simp [bytesV]) (by rw [List.take_of_length_le (by simp [bytesV])])
theorem form_reads {A : Option Addr} {c : Nat} {bs : List UInt8} (f1 : A = none → bs.length = 0 ∧ c = 0) (f2 : ∀ ad, A = some ad → ∃ g, ad = ⟨g, 0, none⟩) : Reads (bytesAt (.slice A bs.length c) bs) A bs ∧ (A = none → bs = []) := by
  refine ⟨Reads.row fun hne => ?_, fun h => List.eq_nil_of_length_eq_zero (f1 h).1⟩
  have hp := List.length_pos_iff.2 hne
  cases A with
  | none => have := (f1 rfl).1; omega
  | some ad => obtain ⟨g, rfl⟩ := f2 ad rfl; exact ⟨g, rfl⟩
set_option maxRecDepth 10000 in
theorem note_does {f e j d : Nat} {J : FK.Jn} {σ : FK.Dsk} {op n : Nat} (_hop : op < 256) (hn : n < 18446744073709551616) (hJ : J.n < 100) (hr : Roomy σ) : Does Tryz.prog Good 100 [ptr f, .int .i64 op, natV n].toArray [fkB f e j, jrnlAt j d J, diskAt d σ] fun v m => v = errV (J.add σ (txt (FK.frame (FK.entryB op n)))).2.2 ∧ m = [fkB f e j, jrnlAt j d (J.add σ (txt (FK.frame (FK.entryB op n)))).1, diskAt d (J.add σ (txt (FK.frame (FK.entryB op n)))).2.1] := by
  have hel : (FK.entryB op n).length ≤ 11 := by
    have := encN_le_ten (n := n) hn
    unfold FK.entryB
    simp
    omega
  refine Does.body Tryz.func100 rfl rfl fun E fr hE => ?_
  refine At.app3 ?_
  refine At.seq ?_
  refine At.region ?_
  refine L.as rfl rfl ?_
  refine L.nil ?_
  refine At.then ?_
  refine At.seq ?_
  refine Dr.start rfl ?_
  refine Dr.p 0 rfl rfl (by kernel_rfl) (ev_move rfl) ?_
  refine Dr.p 1 rfl rfl (by kernel_rfl) (ev_nil rfl) ?_
  refine Dr.p 2 rfl rfl (by kernel_rfl) (ev_field (off := 1) rfl rfl) ?_
  refine Dr.ld 3 rfl rfl (by kernel_rfl) (ev_load1 rfl rfl) (cellIs rfl) ?_
  refine Dr.p 4 rfl rfl (by kernel_rfl) (ev_move rfl) ?_
  refine Dr.p 5 rfl rfl (by kernel_rfl) (ev_conv (r := ((UInt8.ofNat op).toNat : Int)) rfl rfl rfl (byteOf op)) ?_
  refine Dr.p 7 rfl rfl (by kernel_rfl) (ev_move rfl) ?_
  refine Dr.run 6 rfl rfl (by kernel_rfl) (o_slice1 rfl rfl rfl rfl rfl rfl fun b13 => ?_)
  refine Dr.kept [true] (by kernel_rfl) (Kept.cons (cellIs rfl) Kept.nil) ?_
  refine Dr.run 8 rfl rfl (by kernel_rfl) (o_call rfl rfl rfl hE (number_does (.slice (some ⟨b13, 0, none⟩) 1 1) [UInt8.ofNat op] n hn (by simp)) (ent_bytes (bs := [UInt8.ofNat op]) (by unfold maxLen; simp)) ?_)
  rintro v m rfl
  refine At.app1 ?_
  refine At.ent (l' := bytesAt v (FK.entryB op n) :: fkB f e j :: jrnlAt j d J :: diskAt d σ :: fr) (Ent.refl _) ?_
  refine At.formRow .head ?_
  rintro A c rfl f1 f2 - - -
  obtain ⟨hreads, hnil⟩ := form_reads f1 f2
  refine Dr.kept [true] (by kernel_rfl) (Kept.cons (cellIs rfl) Kept.nil) ?_
  refine Dr.run 9 rfl rfl (by kernel_rfl) (o_call rfl rfl rfl hE (add_does c hJ hreads hnil (by omega) hr) (Ent.sel3 (.tail (.tail .head)) (.tail (.tail .head)) .head) ?_)
  rintro v m ⟨hv, rfl⟩
  refine At.app3 ?_
  refine Dr.kept [false] (by kernel_rfl) Kept.nil ?_
  refine Dr.p 10 rfl rfl (by kernel_rfl) (ev_assign rfl) ?_
  refine Dr.done (by kernel_rfl) ?_
  refine At.then ?_
  refine At.ret ?_
  exact At.ret1 [fkB f e j, jrnlAt j d (J.add σ (txt (FK.frame (FK.entryB op n)))).1, diskAt d (J.add σ (txt (FK.frame (FK.entryB op n)))).2.1] rfl rfl ⟨hv, rfl⟩ (by show Ent (jrnlAt j d _ :: diskAt d _ :: _ :: fkB f e j :: fr) _; exact (Ent.sel (.tail (.tail (.tail .head)))).trans (Ent.cons (Ent.cons (Ent.cons Ent.drop))))
set_option maxRecDepth 10000 in
theorem do4_does {f e n : Nat} {jv : Value} {p : EA} {S : FK.En} {Q : FK.En → Prop} (hC : Does Tryz.prog Good 207 [ptr e, natV n].toArray [engX e p S] fun v m => (v = .tuple #[]) ∧ ∃ U, Q U ∧ m = [engX e p U]) : Does Tryz.prog Good 166 [ptr f, .int .i64 4, natV n].toArray [fkV f e jv, engX e p S] fun v m => v = .tuple #[] ∧ ∃ U, Q U ∧ m = [fkV f e jv, engX e p U] := by
  refine Does.body Tryz.func166 rfl rfl fun E fr hE => ?_
  refine At.app2 ?_
  refine At.seq ?_
  refine At.region ?_
  refine L.mv rfl rfl ?_
  refine L.nil ?_
  refine At.then ?_
  refine At.block ?_
  refine At.seq ?_
  refine At.region ?_
  refine L.pure rfl (ev_eql rfl rfl rfl) ?_
  refine L.as rfl rfl ?_
  refine L.nil ?_
  refine At.then ?_
  refine At.condF rfl ?_
  refine At.seq ?_
  refine At.region ?_
  refine L.pure rfl (ev_eql rfl rfl rfl) ?_
  refine L.as rfl rfl ?_
  refine L.nil ?_
  refine At.then ?_
  refine At.condF rfl ?_
  refine At.seq ?_
  refine At.region ?_
  refine L.pure rfl (ev_eql rfl rfl rfl) ?_
  refine L.as rfl rfl ?_
  refine L.nil ?_
  refine At.then ?_
  refine At.condT rfl ?_
  refine At.region ?_
  refine L.mv rfl rfl ?_
  refine L.nc rfl rfl ?_
  refine L.fa 0 rfl rfl rfl ?_
  refine L.ld rfl rfl rfl rfl ?_
  refine L.mv rfl rfl ?_
  refine L.op rfl (o_call rfl rfl rfl hE hC (Ent.sel (.tail .head)) ?_)
  rintro v m ⟨-, U, hU, rfl⟩
  refine At.app1 ?_
  refine L.nil ?_
  refine At.inBlock ?_
  exact At.end0 [fkV f e jv, engX e p U] rfl ⟨rfl, U, hU, rfl⟩ (Ent.sel (.tail .head))
set_option maxRecDepth 10000 in
theorem do5_does {f e n : Nat} {jv : Value} {p : EA} {S : FK.En} {Q : FK.En → Prop} (hC : Does Tryz.prog Good 208 [ptr e, natV n].toArray [engX e p S] fun v m => (v = .tuple #[]) ∧ ∃ U, Q U ∧ m = [engX e p U]) : Does Tryz.prog Good 166 [ptr f, .int .i64 5, natV n].toArray [fkV f e jv, engX e p S] fun v m => v = .tuple #[] ∧ ∃ U, Q U ∧ m = [fkV f e jv, engX e p U] := by
  refine Does.body Tryz.func166 rfl rfl fun E fr hE => ?_
  refine At.app2 ?_
  refine At.seq ?_
  refine At.region ?_
  refine L.mv rfl rfl ?_
  refine L.nil ?_
  refine At.then ?_
  refine At.block ?_
  refine At.seq ?_
  refine At.region ?_
  refine L.pure rfl (ev_eql rfl rfl rfl) ?_
  refine L.as rfl rfl ?_
  refine L.nil ?_
  refine At.then ?_
  refine At.condF rfl ?_
  refine At.seq ?_
  refine At.region ?_
  refine L.pure rfl (ev_eql rfl rfl rfl) ?_
  refine L.as rfl rfl ?_
  refine L.nil ?_
  refine At.then ?_
  refine At.condF rfl ?_
  refine At.seq ?_
  refine At.region ?_
  refine L.pure rfl (ev_eql rfl rfl rfl) ?_
  refine L.as rfl rfl ?_
  refine L.nil ?_
  refine At.then ?_
  refine At.condF rfl ?_
  refine At.seq ?_
  refine At.region ?_
  refine L.pure rfl (ev_eql rfl rfl rfl) ?_
  refine L.as rfl rfl ?_
  refine L.nil ?_
  refine At.then ?_
  refine At.condT rfl ?_
  refine At.region ?_
  refine L.mv rfl rfl ?_
  refine L.nc rfl rfl ?_
  refine L.fa 0 rfl rfl rfl ?_
  refine L.ld rfl rfl rfl rfl ?_
  refine L.mv rfl rfl ?_
  refine L.op rfl (o_call rfl rfl rfl hE hC (Ent.sel (.tail .head)) ?_)
  rintro v m ⟨-, U, hU, rfl⟩
  refine At.app1 ?_
  refine L.nil ?_
  refine At.inBlock ?_
  exact At.end0 [fkV f e jv, engX e p U] rfl ⟨rfl, U, hU, rfl⟩ (Ent.sel (.tail .head))
set_option maxRecDepth 10000 in
theorem do7_does {f e n : Nat} {jv : Value} {p : EA} {S : FK.En} {Q : FK.En → Prop} (hC : Does Tryz.prog Good 210 [ptr e, natV n].toArray [engX e p S] fun v m => (v = .tuple #[]) ∧ ∃ U, Q U ∧ m = [engX e p U]) : Does Tryz.prog Good 166 [ptr f, .int .i64 7, natV n].toArray [fkV f e jv, engX e p S] fun v m => v = .tuple #[] ∧ ∃ U, Q U ∧ m = [fkV f e jv, engX e p U] := by
  refine Does.body Tryz.func166 rfl rfl fun E fr hE => ?_
  refine At.app2 ?_
  refine At.seq ?_
  refine At.region ?_
  refine L.mv rfl rfl ?_
  refine L.nil ?_
  refine At.then ?_
  refine At.block ?_
  refine At.seq ?_
  refine At.region ?_
  refine L.pure rfl (ev_eql rfl rfl rfl) ?_
  refine L.as rfl rfl ?_
  refine L.nil ?_
  refine At.then ?_
  refine At.condF rfl ?_
  refine At.seq ?_
  refine At.region ?_
  refine L.pure rfl (ev_eql rfl rfl rfl) ?_
  refine L.as rfl rfl ?_
  refine L.nil ?_
  refine At.then ?_
  refine At.condF rfl ?_
  refine At.seq ?_
  refine At.region ?_
  refine L.pure rfl (ev_eql rfl rfl rfl) ?_
  refine L.as rfl rfl ?_
  refine L.nil ?_
  refine At.then ?_
  refine At.condF rfl ?_
  refine At.seq ?_
  refine At.region ?_
  refine L.pure rfl (ev_eql rfl rfl rfl) ?_
  refine L.as rfl rfl ?_
  refine L.nil ?_
  refine At.then ?_
  refine At.condF rfl ?_
  refine At.seq ?_
  refine At.region ?_
  refine L.pure rfl (ev_eql rfl rfl rfl) ?_
  refine L.as rfl rfl ?_
  refine L.nil ?_
  refine At.then ?_
  refine At.condF rfl ?_
  refine At.seq ?_
  refine At.region ?_
  refine L.pure rfl (ev_eql rfl rfl rfl) ?_
  refine L.as rfl rfl ?_
  refine L.nil ?_
  refine At.then ?_
  refine At.condT rfl ?_
  refine At.region ?_
  refine L.mv rfl rfl ?_
  refine L.nc rfl rfl ?_
  refine L.fa 0 rfl rfl rfl ?_
  refine L.ld rfl rfl rfl rfl ?_
  refine L.mv rfl rfl ?_
  refine L.op rfl (o_call rfl rfl rfl hE hC (Ent.sel (.tail .head)) ?_)
  rintro v m ⟨-, U, hU, rfl⟩
  refine At.app1 ?_
  refine L.nil ?_
  refine At.inBlock ?_
  exact At.end0 [fkV f e jv, engX e p U] rfl ⟨rfl, U, hU, rfl⟩ (Ent.sel (.tail .head))
def CallPost (f e j d : Nat) (p : EA) (S : FK.En) (J : FK.Jn) (σ : FK.Dsk) (op n : Nat) (Q : FK.En → Prop) (v : Value) (m : List HP) : Prop :=
  v = errV (J.add σ (txt (FK.frame (FK.entryB op n)))).2.2 ∧ ∃ U, ((J.add σ (txt (FK.frame (FK.entryB op n)))).2.2 = 0 → Q U) ∧ ((J.add σ (txt (FK.frame (FK.entryB op n)))).2.2 ≠ 0 → U = S) ∧ m = [fkB f e j, engX e p U, jrnlAt j d (J.add σ (txt (FK.frame (FK.entryB op n)))).1, diskAt d (J.add σ (txt (FK.frame (FK.entryB op n)))).2.1]
set_option maxRecDepth 10000 in
theorem call_does {f e j d : Nat} {p : EA} {S : FK.En} {J : FK.Jn} {σ : FK.Dsk} {op n : Nat} {Q : FK.En → Prop} (hop : op < 256) (hn : n < 18446744073709551616) (hJ : J.n < 100) (hr : Roomy σ)
    (hD : Does Tryz.prog Good 166 [ptr f, .int .i64 op, natV n].toArray [fkB f e j, engX e p S] fun v m => v = .tuple #[] ∧ ∃ U, Q U ∧ m = [fkB f e j, engX e p U]) : Does Tryz.prog Good 104 [ptr f, .int .i64 op, natV n].toArray [fkB f e j, engX e p S, jrnlAt j d J, diskAt d σ] (CallPost f e j d p S J σ op n Q) := by
  refine Does.body Tryz.func104 rfl rfl fun E fr hE => ?_
  refine At.app4 ?_
  refine At.seq ?_
  refine At.region ?_
  refine L.as rfl rfl ?_
  refine L.nil ?_
  refine At.then ?_
  refine At.seq ?_
  refine At.region ?_
  refine L.mv rfl rfl ?_
  refine L.mv rfl rfl ?_
  refine L.mv rfl rfl ?_
  refine L.op rfl (o_call rfl rfl rfl hE (note_does (e := e) (j := j) hop hn hJ hr) (Ent.cons (Ent.sel2 (.tail .head) (.tail .head))) ?_)
  rintro v m ⟨hv, rfl⟩
  refine At.app3 ?_
  generalize hω : J.add σ (txt (FK.frame (FK.entryB op n))) = ω at hv ⊢
  refine L.as rfl rfl ?_
  refine L.nil ?_
  refine At.then ?_
  refine At.seq ?_
  refine At.seq ?_
  by_cases HE : ω.2.2 = 0
  ·
    replace hv := hv.trans (if_pos HE)
    subst hv
    refine At.region ?_
    refine L.mv rfl rfl ?_
    refine L.pure rfl (ev_eqlNil0 rfl rfl) ?_
    refine L.nil ?_
    refine At.then ?_
    refine At.condT rfl ?_
    refine At.region ?_
    refine L.mv rfl rfl ?_
    refine L.mv rfl rfl ?_
    refine L.mv rfl rfl ?_
    refine L.op rfl (o_call rfl rfl rfl hE hD (Ent.cons (Ent.sel (.tail (.tail .head)))) ?_)
    rintro v m ⟨rfl, U, hU, rfl⟩
    refine At.app2 ?_
    refine L.nil ?_
    refine At.then ?_
    refine At.seq ?_
    refine At.region ?_
    refine L.mv rfl rfl ?_
    refine L.as rfl rfl ?_
    refine L.nil ?_
    refine At.then ?_
    refine At.ret ?_
    exact At.ret1 [fkB f e j, engX e p U, jrnlAt j d ω.1, diskAt d ω.2.1] rfl rfl (by unfold CallPost; rw [hω]; exact ⟨(if_pos HE).symm, U, fun _ => hU, fun h => absurd HE h, rfl⟩) (Ent.refl _)
  ·
    replace hv := hv.trans (if_neg HE)
    subst hv
    refine At.region ?_
    refine L.mv rfl rfl ?_
    refine L.pure rfl (ev_eqlNil rfl rfl) ?_
    refine L.nil ?_
    refine At.then ?_
    refine At.condF rfl ?_
    refine At.skip ?_
    refine At.then ?_
    refine At.seq ?_
    refine At.region ?_
    refine L.mv rfl rfl ?_
    refine L.as rfl rfl ?_
    refine L.nil ?_
    refine At.then ?_
    refine At.ret ?_
    exact At.ret1 [fkB f e j, engX e p S, jrnlAt j d ω.1, diskAt d ω.2.1] rfl rfl (by unfold CallPost; rw [hω]; exact ⟨(if_neg HE).symm, S, fun h => absurd h HE, fun _ => rfl, rfl⟩) (Ent.cons (Ent.sel (.tail (.tail .head))))
end Go.Proofs.YtmeegfamopaljaaGreatDoor
