/- The library's contracts at this program: a number's digits; a text that is no number (laid out of the kit's shelf by its own tools). -/
import Derived.Shelf.Strconv.Itoa3
import Derived.Shelf.Strconv.AtoiErr
import Derived.Test.YtmeegfamopaljaaGreatDoorChecked
import Derived.Test.YtmeegfamopaljaaGreatDoorEdS
import Derived.Test.YtmeegfamopaljaaGreatDoorEdL
import Derived.Lib.ItoaLen
import Derived.Lib.ItoaMem
import Derived.Lib.AppendIntMem
import Derived.Test.YtmeegfamopaljaaGreatDoorEdR
import Derived.Test.YtmeegfamopaljaaGreatDoorEdQ
import Derived.Test.YtmeegfamopaljaaGreatDoorEdD
namespace Go.Proofs
open Go.Shelf
def lz : Go.Shelf.Ren := ⟨fun | 171 => 200 | 243 => 224 | 246 => 250 | 283 => 276 | 284 => 277 | 285 => 278 | 286 => 279 | 129 => 227 | 317 => 299 | 318 => 300 | 319 => 301 | 320 => 141 | 337 => 195 | 338 => 196 | n => n, fun | 3 => 3 | 9 => 9 | 2 => 2 | 4 => 4 | 171 => 400 | 0 => 0 | 53 => 51 | 37 => 47 | 5 => 5 | 173 => 402 | 212 => 423 | 51 => 312 | 20 => 20 | 213 => 424 | 46 => 87 | 232 => 351 | 233 => 352 | n => n, fun | 17 => 5 | 18 => 1 | 19 => 2 | n => n⟩
theorem oL : Go.Proofs.LaysM.n171 Tryz.prog lz := {
 mixed := by kernel_rfl
 f129 := Tryz.func227.trans (congrArg some (by kernel_rfl))
 f171 := Tryz.func200.trans (congrArg some (by kernel_rfl))
 f243 := Tryz.func224.trans (congrArg some (by kernel_rfl))
 f246 := Tryz.func250.trans (congrArg some (by kernel_rfl))
 f283 := Tryz.func276.trans (congrArg some (by kernel_rfl))
 f284 := Tryz.func277.trans (congrArg some (by kernel_rfl))
 f285 := Tryz.func278.trans (congrArg some (by kernel_rfl))
 f286 := Tryz.func279.trans (congrArg some (by kernel_rfl))
 f317 := Tryz.func299.trans (congrArg some (by kernel_rfl))
 f318 := Tryz.func300.trans (congrArg some (by kernel_rfl))
 f319 := Tryz.func301.trans (congrArg some (by kernel_rfl))
 f320 := Tryz.func141.trans (congrArg some (by kernel_rfl))
 f337 := Tryz.func195.trans (congrArg some (by kernel_rfl))
 f338 := Tryz.func196.trans (congrArg some (by kernel_rfl))
 t0 := Tryz.underlying0
 a0 := Tryz.isAgg0
 z0 := Tryz.sizeOf0
 v0 := Tryz.zeroValue0
 t2 := Tryz.underlying2
 a2 := Tryz.isAgg2
 z2 := Tryz.sizeOf2
 v2 := Tryz.zeroValue2
 t3 := Tryz.underlying3
 a3 := Tryz.isAgg3
 z3 := Tryz.sizeOf3
 v3 := Tryz.zeroValue3
 t4 := Tryz.underlying4
 a4 := Tryz.isAgg4
 z4 := Tryz.sizeOf4
 v4 := Tryz.zeroValue4
 t5 := Tryz.underlying5
 a5 := Tryz.isAgg5
 z5 := Tryz.sizeOf5
 v5 := Tryz.zeroValue5
 t9 := Tryz.underlying9
 a9 := Tryz.isAgg9
 z9 := Tryz.sizeOf9
 v9 := Tryz.zeroValue9
 t20 := Tryz.underlying20
 a20 := Tryz.isAgg20
 z20 := Tryz.sizeOf20
 v20 := Tryz.zeroValue20
 t37 := Tryz.underlying47
 a37 := Tryz.isAgg47
 z37 := Tryz.sizeOf47
 v37 := Tryz.zeroValue47
 t46 := Tryz.underlying87
 a46 := Tryz.isAgg87
 z46 := Tryz.sizeOf87
 v46 := Tryz.zeroValue87
 t51 := Tryz.underlying312
 a51 := Tryz.isAgg312
 z51 := Tryz.sizeOf312
 v51 := Tryz.zeroValue312
 t53 := Tryz.underlying51
 a53 := Tryz.isAgg51
 z53 := Tryz.sizeOf51
 v53 := Tryz.zeroValue51
 t171 := Tryz.underlying400
 a171 := Tryz.isAgg400
 z171 := Tryz.sizeOf400
 v171 := Tryz.zeroValue400
 t173 := Tryz.underlying402
 a173 := Tryz.isAgg402
 z173 := Tryz.sizeOf402
 v173 := Tryz.zeroValue402
 t212 := Tryz.underlying423
 a212 := Tryz.isAgg423
 z212 := Tryz.sizeOf423
 v212 := Tryz.zeroValue423
 t213 := Tryz.underlying424
 a213 := Tryz.isAgg424
 z213 := Tryz.sizeOf424
 t232 := Tryz.underlying351
 a232 := Tryz.isAgg351
 z232 := Tryz.sizeOf351
 v232 := Tryz.zeroValue351
 t233 := Tryz.underlying352
 a233 := Tryz.isAgg352
 z233 := Tryz.sizeOf352
 v233 := Tryz.zeroValue352
 g17 := by kernel_rfl
 g18 := by kernel_rfl
 g19 := by kernel_rfl
 i0 := by kernel_rfl
 i2 := by kernel_rfl
 i3 := by kernel_rfl
 i4 := by kernel_rfl
 i5 := by kernel_rfl
 i9 := by kernel_rfl
 i20 := by kernel_rfl
 i37 := by kernel_rfl
 i46 := by kernel_rfl
 i51 := by kernel_rfl
 i53 := by kernel_rfl
 i171 := by kernel_rfl
 i173 := by kernel_rfl
 i212 := by kernel_rfl
 i232 := by kernel_rfl
 i233 := by kernel_rfl
 m17 := by kernel_rfl
 m18 := by kernel_rfl
 m19 := by kernel_rfl }
open Go.RowKit Go.Sort Go.Lib in
theorem lx (n : Int) (h0 : -9223372036854775808 ≤ n) (h1 : n ≤ 9223372036854775807) (w : World) (htab : Lib.TabIs Tryz.prog w "internal/strconv.uint64pow10" .u64 Lib.pow10Tab) :
 Calls Tryz.prog 200 #[.int .i64 n] w fun e w' => e = .returned (.string ⟨(Lib.itoa n).toArray⟩) ∧ ∃ k os, w' = grow (w.drewN k) os := Any.strconv_Itoa oL n h0 h1 w htab
def lB : Go.Shelf.Ren := ⟨fun | 172 => 169 | 244 => 212 | 245 => 213 | 247 => 237 | 279 => 238 | 280 => 239 | 281 => 240 | 282 => 241 | 287 => 261 | 316 => 262 | 171 => 200 | 205 => 263 | 321 => 282 | 322 => 283 | 243 => 224 | 246 => 250 | 283 => 276 | 284 => 277 | 285 => 278 | 286 => 279 | 129 => 227 | 317 => 299 | 318 => 300 | 319 => 301 | 320 => 141 | 337 => 195 | 338 => 196 | n => n, fun | 9 => 9 | 3 => 3 | 75 => 109 | 76 => 281 | 4 => 4 | 5 => 5 | 167 => 366 | 37 => 47 | 0 => 0 | 85 => 367 | 2 => 2 | 168 => 369 | 53 => 51 | 175 => 120 | 46 => 87 | 210 => 390 | 127 => 407 | 145 => 410 | 143 => 408 | 21 => 21 | 171 => 400 | 173 => 402 | 212 => 423 | 51 => 312 | 20 => 20 | 213 => 424 | 232 => 351 | 233 => 352 | 80 => 431 | n => n, fun | 15 => 3 | 16 => 4 | 17 => 5 | 18 => 1 | 19 => 2 | n => n⟩
theorem oM : Go.Proofs.LaysC.n172 Tryz.prog lB := {
 mixed := by kernel_rfl
 f129 := Tryz.func227.trans (congrArg some (by kernel_rfl))
 f171 := Tryz.func200.trans (congrArg some (by kernel_rfl))
 f172 := Tryz.func169.trans (congrArg some (by kernel_rfl))
 f205 := Tryz.func263.trans (congrArg some (by kernel_rfl))
 f243 := Tryz.func224.trans (congrArg some (by kernel_rfl))
 f244 := Tryz.func212.trans (congrArg some (by kernel_rfl))
 f245 := Tryz.func213.trans (congrArg some (by kernel_rfl))
 f246 := Tryz.func250.trans (congrArg some (by kernel_rfl))
 f247 := Tryz.func237.trans (congrArg some (by kernel_rfl))
 f279 := Tryz.func238.trans (congrArg some (by kernel_rfl))
 f280 := Tryz.func239.trans (congrArg some (by kernel_rfl))
 f281 := Tryz.func240.trans (congrArg some (by kernel_rfl))
 f282 := Tryz.func241.trans (congrArg some (by kernel_rfl))
 f283 := Tryz.func276.trans (congrArg some (by kernel_rfl))
 f284 := Tryz.func277.trans (congrArg some (by kernel_rfl))
 f285 := Tryz.func278.trans (congrArg some (by kernel_rfl))
 f286 := Tryz.func279.trans (congrArg some (by kernel_rfl))
 f287 := Tryz.func261.trans (congrArg some (by kernel_rfl))
 f316 := Tryz.func262.trans (congrArg some (by kernel_rfl))
 f317 := Tryz.func299.trans (congrArg some (by kernel_rfl))
 f318 := Tryz.func300.trans (congrArg some (by kernel_rfl))
 f319 := Tryz.func301.trans (congrArg some (by kernel_rfl))
 f320 := Tryz.func141.trans (congrArg some (by kernel_rfl))
 f321 := Tryz.func282.trans (congrArg some (by kernel_rfl))
 f322 := Tryz.func283.trans (congrArg some (by kernel_rfl))
 f337 := Tryz.func195.trans (congrArg some (by kernel_rfl))
 f338 := Tryz.func196.trans (congrArg some (by kernel_rfl))
 t0 := Tryz.underlying0
 a0 := Tryz.isAgg0
 z0 := Tryz.sizeOf0
 v0 := Tryz.zeroValue0
 t2 := Tryz.underlying2
 a2 := Tryz.isAgg2
 z2 := Tryz.sizeOf2
 v2 := Tryz.zeroValue2
 t3 := Tryz.underlying3
 a3 := Tryz.isAgg3
 z3 := Tryz.sizeOf3
 v3 := Tryz.zeroValue3
 t4 := Tryz.underlying4
 a4 := Tryz.isAgg4
 z4 := Tryz.sizeOf4
 v4 := Tryz.zeroValue4
 t5 := Tryz.underlying5
 a5 := Tryz.isAgg5
 z5 := Tryz.sizeOf5
 v5 := Tryz.zeroValue5
 t9 := Tryz.underlying9
 a9 := Tryz.isAgg9
 z9 := Tryz.sizeOf9
 v9 := Tryz.zeroValue9
 t20 := Tryz.underlying20
 a20 := Tryz.isAgg20
 z20 := Tryz.sizeOf20
 v20 := Tryz.zeroValue20
 t21 := Tryz.underlying21
 a21 := Tryz.isAgg21
 z21 := Tryz.sizeOf21
 v21 := Tryz.zeroValue21
 t37 := Tryz.underlying47
 a37 := Tryz.isAgg47
 z37 := Tryz.sizeOf47
 v37 := Tryz.zeroValue47
 t46 := Tryz.underlying87
 a46 := Tryz.isAgg87
 z46 := Tryz.sizeOf87
 v46 := Tryz.zeroValue87
 t51 := Tryz.underlying312
 a51 := Tryz.isAgg312
 z51 := Tryz.sizeOf312
 v51 := Tryz.zeroValue312
 t53 := Tryz.underlying51
 a53 := Tryz.isAgg51
 z53 := Tryz.sizeOf51
 v53 := Tryz.zeroValue51
 t75 := Tryz.underlying109
 a75 := Tryz.isAgg109
 z75 := Tryz.sizeOf109
 v75 := Tryz.zeroValue109
 t76 := Tryz.underlying281
 a76 := Tryz.isAgg281
 z76 := Tryz.sizeOf281
 v76 := Tryz.zeroValue281
 t85 := Tryz.underlying367
 a85 := Tryz.isAgg367
 z85 := Tryz.sizeOf367
 v85 := Tryz.zeroValue367
 t127 := Tryz.underlying407
 a127 := Tryz.isAgg407
 z127 := Tryz.sizeOf407
 v127 := Tryz.zeroValue407
 t143 := Tryz.underlying408
 a143 := Tryz.isAgg408
 z143 := Tryz.sizeOf408
 v143 := Tryz.zeroValue408
 t145 := Tryz.underlying410
 a145 := Tryz.isAgg410
 z145 := Tryz.sizeOf410
 v145 := Tryz.zeroValue410
 t167 := Tryz.underlying366
 a167 := Tryz.isAgg366
 z167 := Tryz.sizeOf366
 v167 := Tryz.zeroValue366
 t168 := Tryz.underlying369
 a168 := Tryz.isAgg369
 z168 := Tryz.sizeOf369
 v168 := Tryz.zeroValue369
 t171 := Tryz.underlying400
 a171 := Tryz.isAgg400
 z171 := Tryz.sizeOf400
 v171 := Tryz.zeroValue400
 t173 := Tryz.underlying402
 a173 := Tryz.isAgg402
 z173 := Tryz.sizeOf402
 v173 := Tryz.zeroValue402
 t175 := Tryz.underlying120
 a175 := Tryz.isAgg120
 z175 := Tryz.sizeOf120
 v175 := Tryz.zeroValue120
 t210 := Tryz.underlying390
 a210 := Tryz.isAgg390
 z210 := Tryz.sizeOf390
 v210 := Tryz.zeroValue390
 t212 := Tryz.underlying423
 a212 := Tryz.isAgg423
 z212 := Tryz.sizeOf423
 v212 := Tryz.zeroValue423
 t213 := Tryz.underlying424
 a213 := Tryz.isAgg424
 z213 := Tryz.sizeOf424
 t232 := Tryz.underlying351
 a232 := Tryz.isAgg351
 z232 := Tryz.sizeOf351
 v232 := Tryz.zeroValue351
 t233 := Tryz.underlying352
 a233 := Tryz.isAgg352
 z233 := Tryz.sizeOf352
 v233 := Tryz.zeroValue352
 g15 := by kernel_rfl
 g16 := by kernel_rfl
 g17 := by kernel_rfl
 g18 := by kernel_rfl
 g19 := by kernel_rfl
 t80 := Tryz.underlying431
 a80 := Tryz.isAgg431
 z80 := Tryz.sizeOf431
 v80 := Tryz.zeroValue431
 i0 := by kernel_rfl
 i2 := by kernel_rfl
 i3 := by kernel_rfl
 i4 := by kernel_rfl
 i5 := by kernel_rfl
 i9 := by kernel_rfl
 i20 := by kernel_rfl
 i21 := by kernel_rfl
 i37 := by kernel_rfl
 i46 := by kernel_rfl
 i51 := by kernel_rfl
 i53 := by kernel_rfl
 i75 := by kernel_rfl
 i76 := by kernel_rfl
 i80 := by kernel_rfl
 i85 := by kernel_rfl
 i127 := by kernel_rfl
 i143 := by kernel_rfl
 i145 := by kernel_rfl
 i167 := by kernel_rfl
 i168 := by kernel_rfl
 i171 := by kernel_rfl
 i173 := by kernel_rfl
 i175 := by kernel_rfl
 i210 := by kernel_rfl
 i212 := by kernel_rfl
 i232 := by kernel_rfl
 i233 := by kernel_rfl
 m15 := by kernel_rfl
 m16 := by kernel_rfl
 m17 := by kernel_rfl
 m18 := by kernel_rfl
 m19 := by kernel_rfl
 c0 := by kernel_rfl
 c2 := by kernel_rfl
 c3 := by kernel_rfl
 c4 := by kernel_rfl
 c5 := by kernel_rfl
 c9 := by kernel_rfl
 c20 := by kernel_rfl
 c21 := by kernel_rfl
 c37 := by kernel_rfl
 c46 := by kernel_rfl
 c51 := by kernel_rfl
 c53 := by kernel_rfl
 c75 := by kernel_rfl
 c76 := by kernel_rfl
 c80 := by kernel_rfl
 c85 := by kernel_rfl
 c127 := by kernel_rfl
 c143 := by kernel_rfl
 c145 := by kernel_rfl
 c167 := by kernel_rfl
 c168 := by kernel_rfl
 c171 := by kernel_rfl
 c173 := by kernel_rfl
 c175 := by kernel_rfl
 c210 := by kernel_rfl
 c212 := by kernel_rfl
 c213 := by kernel_rfl
 c232 := by kernel_rfl
 c233 := by kernel_rfl }
open Go.RowKit in
theorem jm (s : ByteArray) (hl : s.size ≤ 18) (h : Lib.atoi s.data.toList = none) (ev : Value) (w : World) (hv : w.cell? ⟨3, 0, none⟩ = some ev) (hev : ev = .nilIface ∨ ∃ te pe, ev = .iface te pe) :
 Calls Tryz.prog 169 #[.string s] w fun e w' => ∃ N, e = .returned (.tuple #[.int .i64 0, .iface 369 (.pointer (some ⟨N, 0, none⟩))]) ∧ w.heap.size ≤ N ∧ w'.heap[N]? = some (.cells #[.string ⟨#[65, 116, 111, 105]⟩, .string s, ev] 390 (0, 0)) ∧ Below w.heap.size w w' := Any.strconv_Atoi_err oM s hl h ev w hv hev
end Go.Proofs

namespace FK
structure Jn where
 n : Nat
 torn : Bool
 broken : Int
def m6 (n : Nat) : ByteArray := ⟨(Go.Lib.decDigits n).toArray⟩
def aW (n : Nat) : ByteArray := ⟨#[108, 111, 103]⟩ ++ m6 n
def Jn.add (J : Jn) (σ : Dsk) (s : ByteArray) : Jn × Dsk × Int :=
 if J.broken ≠ 0 then (J, σ, J.broken) else if (σ.tell ⟨2, aW J.n, s⟩).2 ≠ 0 then ({ J with broken := (σ.tell ⟨2, aW J.n, s⟩).2 }, (σ.tell ⟨2, aW J.n, s⟩).1, (σ.tell ⟨2, aW J.n, s⟩).2)
 else ({ J with broken := (σ.tell ⟨2, aW J.n, s⟩).1.sync.2 }, (σ.tell ⟨2, aW J.n, s⟩).1.sync.1, (σ.tell ⟨2, aW J.n, s⟩).1.sync.2)
end FK
namespace Go.Proofs.YtmeegfamopaljaaGreatDoor
open Go Go.RowKit Go.SL
variable {G : Env → Prop}
theorem rM (e : Int) : (eR e).oneCell' = true := by
 unfold eR
 split <;> rfl
theorem qs {P : Program} {ts : List (Nat × Value)} {x : Operand} {t : TypeId} {v : Value} (hx : ev ts x = some (.iface t v)) : Ev P ts (.nilCheck x) (.iface t v) Any := by
 intro a w _ _ _ _ _ k _
 simp [execOp, k.eval hx]
theorem AJ (p : Addr) (w : World) : (Go.method (Tryz.prog.types.size + Made.depth) 115 (.pointer (some p)) "Append").run Tryz.prog w = .ok (326, .pointer (some p)) w := by kernel_rfl
theorem rc (p : Addr) (w : World) : (Go.method (Tryz.prog.types.size + Made.depth) 115 (.pointer (some p)) "Sync").run Tryz.prog w = .ok (330, .pointer (some p)) w := by kernel_rfl
theorem yw (p : Addr) (w : World) : (Go.method (Tryz.prog.types.size + Made.depth) 115 (.pointer (some p)) "Names").run Tryz.prog w = .ok (327, .pointer (some p)) w := by kernel_rfl
theorem Br (p : Addr) (w : World) : (Go.method (Tryz.prog.types.size + Made.depth) 115 (.pointer (some p)) "Read").run Tryz.prog w = .ok (328, .pointer (some p)) w := by kernel_rfl
abbrev l9 (d : Nat) (J : FK.Jn) : Array Value := #[.iface 115 (aL d), .int .i64 J.n, .bool J.torn, eR J.broken]
abbrev aD (j d : Nat) (J : FK.Jn) : HP := blk j 254 (l9 d J)
theorem xd {n : Nat} (hn : n < 1000000) : Does Tryz.prog Good 200 [.int .i64 n].toArray [] fun v m => v = bG (FK.m6 n) ∧ m = [] :=
 (du (G := Good) (φ := fun _ => True) fun _ w hE hw _ => (lx n (by omega) (by omega) w (hE.pow w hw)).mono fun _ _ ⟨h1, k, os, h2⟩ => ⟨by rw [h1, Lib.itoa_nonneg]; rfl, by rw [h2]; exact Lib.below_grow _ _ (Nat.le_refl _) k os⟩).does
theorem zL (n : Nat) (hn : n < 1000000) : (FK.m6 n).size ≤ 21 := by
 have h := Lib.itoa_length_le (n : Int) (by omega) (by omega)
 rw [Lib.itoa_nonneg] at h
 have e : (FK.m6 n).size = (Lib.decDigits n).length := by
  show (Lib.decDigits n).toArray.size = _
  simp
 omega
set_option maxRecDepth 10000 in
theorem iO {kind : ByteArray} {n : Nat} (hn : n < 1000000) (hk : kind.size ≤ 1000) : Does Tryz.prog Good 155 [bG kind, .int .i64 n].toArray [] fun v m => v = bG (kind ++ FK.m6 n) ∧ m = [] := by
 have hd := zL n hn
 refine Does.body Tryz.func155 Z Z fun E fr hE => ?_
 refine ay (At.seq (At.region (L.as Z Z (L.nil (At.then (At.seq (At.region (L.mv Z Z (L.mv Z Z (L.op Z (ah Z Z Z hE (xd hn) (Ent.refl _) ?_)))))))))))
 rintro v m ⟨rfl, rfl⟩
 refine ay ?_
 refine L.pure Z (pH Z Z (by omega)) ?_
 refine L.as Z Z (L.nil (At.then (At.ret ?_)))
 exact aA [] rfl Z ⟨rfl, rfl⟩ (Ent.refl _)
theorem j5 (bs : List UInt8) (h : bs.length ≤ 1099511627776) : (FK.frame bs).length ≤ bs.length + 14 := by
 have := ew (n := bs.length) (by omega)
 unfold FK.frame FK.fF
 simp
 omega
structure Roomy (σ : FK.Dsk) : Prop where
 now : FK.kD σ.now ≤ 4611686018427387904
 dur : FK.kD σ.dur + FK.gJ σ.pend ≤ 4611686018427387904
 pend : σ.pend.length ≤ 1000000000000
theorem tK (σ : FK.Dsk) (o : FK.DOp) : ((σ.tell o).1.dur = σ.dur) ∧ ((σ.tell o).1.pend = σ.pend ∨ (σ.tell o).1.pend = σ.pend ++ [o]) ∧ ((σ.tell o).1.now = σ.now ∨ (σ.tell o).1.now = FK.cP σ.now o) := by
 have hw : σ.writes.1.now = σ.now ∧ σ.writes.1.dur = σ.dur ∧ σ.writes.1.pend = σ.pend := by
  unfold FK.Dsk.writes; split
  · exact ⟨rfl, rfl, rfl⟩
  · split <;> exact ⟨rfl, rfl, rfl⟩
 unfold FK.Dsk.tell
 split
 · exact ⟨hw.2.1, .inr (by show σ.writes.1.pend ++ [o] = _; rw [hw.2.2]), .inl hw.1⟩
 · split
   · exact ⟨hw.2.1, .inl hw.2.2, .inl hw.1⟩
   · split
     · exact ⟨hw.2.1, .inl hw.2.2, .inl hw.1⟩
     · exact ⟨hw.2.1, .inr (by show σ.writes.1.pend ++ [o] = _; rw [hw.2.2]), .inr (by show FK.cP σ.writes.1.now o = _; rw [hw.1])⟩
set_option maxRecDepth 10000 in
set_option maxHeartbeats 1000000 in
theorem rZ {j d : Nat} {J : FK.Jn} {σ : FK.Dsk} {p : HP} {A : Option Addr} {bs : List UInt8} (c : Nat) (hn : J.n < 1000000) (hp : Reads p A bs) (hA : A = none → bs = []) (hl : bs.length ≤ 1000000000000) (hr : Roomy σ) : Does Tryz.prog Good 95 [aL j, .slice A bs.length c].toArray [aD j d J, ak d σ, p] fun v m => v = eR (J.add σ (cV (FK.frame bs))).2.2 ∧ m = [aD j d (J.add σ (cV (FK.frame bs))).1, ak d (J.add σ (cV (FK.frame bs))).2.1, p] := by
 have hfl := j5 bs (by omega)
 have h1 := hr.now
 have h2 := hr.dur
 have h3 := hr.pend
 refine Does.body Tryz.func95 Z Z fun E fr hE => ?_
 refine cu (At.seq (At.region (L.as Z Z (L.nil (At.then (At.seq (At.seq ?_)))))))
 by_cases HB : J.broken = 0
 ·
  have hadd : J.add σ (cV (FK.frame bs)) = if (σ.tell ⟨2, FK.aW J.n, (cV (FK.frame bs))⟩).2 ≠ 0 then ({ J with broken := (σ.tell ⟨2, FK.aW J.n, (cV (FK.frame bs))⟩).2 }, (σ.tell ⟨2, FK.aW J.n, (cV (FK.frame bs))⟩).1, (σ.tell ⟨2, FK.aW J.n, (cV (FK.frame bs))⟩).2) else ({ J with broken := (σ.tell ⟨2, FK.aW J.n, (cV (FK.frame bs))⟩).1.sync.2 }, (σ.tell ⟨2, FK.aW J.n, (cV (FK.frame bs))⟩).1.sync.1, (σ.tell ⟨2, FK.aW J.n, (cV (FK.frame bs))⟩).1.sync.2) := by unfold FK.Jn.add; rw [if_neg (by rw [HB]; simp)]
  refine ax j #[.iface 115 (aL d), .int .i64 J.n, .bool J.torn, .nilIface] (by unfold l9 eR; rw [if_pos HB]) ?_
  refine At.region (L.mv Z Z (aN Z Z (aE 3 Z Z Z (aX Z Z Z Z (L.pure Z (g0 Z Z) (L.nil (At.then (aR Z (Dr.start Z (dP 0 Z Z (ag Z) (dP 1 Z Z (ag Z) (dP 2 Z Z (aq Z) (dP 3 Z Z (ab (off := 0) Z Z) (dL 4 Z Z (aa Z Z) (ae Z) (dP 5 Z Z (ag Z) (dP 6 Z Z (aq Z) (dP 7 Z Z (ab (off := 1) Z Z) (dL 8 Z Z (aa Z Z) (ae Z) (dP 10 Z Z (ag Z) ?_)))))))))))))))))))
  refine dP 12 Z Z (qs Z) (dP 13 Z Z (ag Z) ?_)
  refine dR 9 Z Z (ah Z Z Z hE (iO (kind := ⟨#[108, 111, 103]⟩) hn (by decide)) (Ent.refl _) ?_)
  rintro v m ⟨rfl, rfl⟩
  refine ay ?_
  refine Dr.kept [false, true] (by kernel_rfl) (Kept.cons (ae Z) Kept.nil) ?_
  refine dR 11 Z Z (ah Z Z Z hE (sM c hp hA (by omega)) (Ent.sel (.tail (.tail .head))) ?_)
  rintro v m rfl
  refine aF ?_
  refine Dr.kept [true] (by kernel_rfl) (Kept.cons (ae Z) Kept.nil) ?_
  refine dR 14 Z Z (ef Z Z Z (AJ ⟨d, 0, none⟩) Z hE (s8 (name := FK.aW J.n) (by omega) (by omega) (by omega)) (aK (.tail (.tail (.tail .head))) .head) ?_)
  rintro v m ⟨rfl, rfl⟩
  refine ai ?_
  obtain ⟨ω, hω⟩ : ∃ ω, ω = σ.tell ⟨2, FK.aW J.n, (cV (FK.frame bs))⟩ := ⟨_, rfl⟩
  have hcases := tK σ ⟨2, FK.aW J.n, (cV (FK.frame bs))⟩
  rw [← hω] at hcases hadd ⊢
  obtain ⟨σ1, e1⟩ := ω
  have htx : (cV (FK.frame bs)).size = (FK.frame bs).length := jx _
  obtain ⟨hc1, hc2, -⟩ := hcases
  have hpv : FK.gJ (σ.pend ++ [⟨2, FK.aW J.n, (cV (FK.frame bs))⟩]) = FK.gJ σ.pend + (FK.frame bs).length := by simp [FK.gJ, htx]
  have hq1 : FK.kD σ1.dur + FK.gJ σ1.pend ≤ 9223372036854775807 := by
   simp only at hc1 hc2
   rw [hc1]
   rcases hc2 with h | h <;> rw [h]
   · omega
   · rw [hpv]; omega
  have hq2 : σ1.pend.length ≤ 1099511627776 := by
   simp only at hc2
   rcases hc2 with h | h <;> rw [h]
   · omega
   · rw [List.length_append]; simp; omega
  refine Dr.kept [true] (by kernel_rfl) (Kept.cons (ae Z) Kept.nil) ?_
  refine dP 15 Z Z (aq Z) (dP 16 Z Z (ab (off := 3) Z Z) ?_)
  refine dR 17 Z Z (bC Z Z Z Z (rM _) (by show 3 < 4; omega) ?_)
  refine Dr.kept [false] (by kernel_rfl) Kept.nil ?_
  refine dE (At.then (At.seq (At.seq ?_)))
  by_cases HE : e1 = 0
  ·
   refine ax j #[.iface 115 (aL d), .int .i64 J.n, .bool J.torn, .nilIface] (by show (#[_, _, _, eR e1] : Array Value) = _; unfold eR; rw [if_pos HE]) ?_
   have ht : J.add σ (cV (FK.frame bs)) = ({ J with broken := σ1.sync.2 }, σ1.sync.1, σ1.sync.2) := by rw [hadd, if_neg (fun h => h HE)]
   refine At.region (L.mv Z Z (aN Z Z (aE 3 Z Z Z (aX Z Z Z Z (L.pure Z (g0 Z Z) (L.nil (At.then (aR Z (At.region (L.mv Z Z (L.mv Z Z (aN Z Z (aE 0 Z Z Z (aX Z Z Z Z ?_))))))))))))))
   refine L.op Z (ef Z Z Z (rc ⟨d, 0, none⟩) Z hE (iL hq1 hq2) (Ent.sel (.tail .head)) ?_)
   rintro v m ⟨rfl, rfl⟩
   refine ai (aN Z Z (aE 3 Z Z Z ?_))
   refine L.st Z Z Z (rM _) (by show 3 < 4; omega) ?_
   refine L.nil (At.then (At.seq (At.region (L.mv Z Z (aN Z Z (aE 3 Z Z Z (aX Z Z Z Z (L.as Z Z (L.nil (At.then (At.ret ?_)))))))))))
   rw [ht]
   exact aA [aD j d { J with broken := σ1.sync.2 }, ak d σ1.sync.1, p] rfl Z ⟨rfl, rfl⟩ (Ent.refl _)
  ·
   refine ax j #[.iface 115 (aL d), .int .i64 J.n, .bool J.torn, .iface 48 (.int .i64 e1)] (by show (#[_, _, _, eR e1] : Array Value) = _; unfold eR; rw [if_neg HE]) ?_
   have ht : J.add σ (cV (FK.frame bs)) = ({ J with broken := e1 }, σ1, e1) := by rw [hadd, if_pos HE]
   refine At.region (L.mv Z Z (aN Z Z (aE 3 Z Z Z (aX Z Z Z Z (L.pure Z (co Z Z) (L.nil (At.then (aj Z (At.skip (At.then (At.seq (At.region (L.mv Z Z (aN Z Z (aE 3 Z Z Z (aX Z Z Z Z (L.as Z Z (L.nil (At.then ?_)))))))))))))))))))
   refine At.ret ?_
   rw [ht]
   refine aA [aD j d { J with broken := e1 }, ak d σ1, p] rfl Z ⟨(if_neg HE).symm, rfl⟩ ?_
   show Ent _ (blk j 254 #[_, _, _, eR e1] :: ak d σ1 :: p :: fr)
   unfold eR
   rw [if_neg HE]
   exact Ent.refl _
 ·
  have hadd : J.add σ (cV (FK.frame bs)) = (J, σ, J.broken) := by unfold FK.Jn.add; rw [if_pos HB]
  rw [hadd]
  refine ax j #[.iface 115 (aL d), .int .i64 J.n, .bool J.torn, .iface 48 (.int .i64 J.broken)] (by unfold l9 eR; rw [if_neg HB]) ?_
  refine At.region (L.mv Z Z (aN Z Z (aE 3 Z Z Z (aX Z Z Z Z (L.pure Z (co Z Z) (L.nil (At.then (aj Z (At.skip (At.then (At.seq (At.seq (At.region (L.mv Z Z (aN Z Z (aE 3 Z Z Z (aX Z Z Z Z (L.pure Z (co Z Z) (L.nil ?_)))))))))))))))))))
  refine At.then (aj Z (At.skip (At.then (At.seq (At.region (L.mv Z Z (aN Z Z (aE 3 Z Z Z (aX Z Z Z Z (L.as Z Z (L.nil (At.then (At.ret ?_)))))))))))))
  refine aA [aD j d J, ak d σ, p] rfl Z ⟨(if_neg HB).symm, rfl⟩ ?_
  show Ent _ (blk j 254 #[_, _, _, eR J.broken] :: ak d σ :: p :: fr)
  unfold eR
  rw [if_neg HB]
  exact Ent.refl _
end Go.Proofs.YtmeegfamopaljaaGreatDoor

namespace FK
theorem rO {len : Nat} : ∀ (l : List Int) (p : Int), -1 ≤ p → EdgesOk len p l → ∀ x ∈ l, 0 ≤ x ∧ x < len
 | [], _, _, _ => by intro x hx; simp at hx
 | y :: l, p, hp, h => by
  intro x hx
  obtain ⟨h1, h2, h3⟩ := h
  rcases List.mem_cons.1 hx with rfl | hx
  · omega
  · exact rO l y (by omega) h3 x hx
theorem Fit.after {f : Flow} (h : Fit f) : ∀ nd ∈ f.nodes, ∀ x ∈ nd.after, 0 ≤ x ∧ x < (f.nodes.length : Int) := fun nd db x hx => by
 obtain ⟨i, hi⟩ := List.getElem?_of_mem db
 exact rO _ _ (by omega) (h.nodes i nd (bx hi) hi).2 x hx
theorem Fit.node {f : Flow} (h : Fit f) {nd : Node} (db : nd ∈ f.nodes) : cf nd := by
 obtain ⟨i, hi⟩ := List.getElem?_of_mem db
 exact (h.nodes i nd (bx hi) hi).1
theorem vW {nd : Node} (h : cf nd) (k : Int) (seed : Nat) : 0 ≤ eM nd.base nd.cap nd.jitter k seed ∧ eM nd.base nd.cap nd.jitter k seed ≤ 2097152 := by
 obtain ⟨_, _, _, _, ⟨b1, b2⟩, ⟨c1, c2⟩, j1, j2⟩ := h
 have hm : 0 ≤ (seed : Int) % (nd.jitter + 1) ∧ (seed : Int) % (nd.jitter + 1) < nd.jitter + 1 := ⟨Int.emod_nonneg _ (by omega), Int.emod_lt_of_pos _ (by omega)⟩
 unfold eM
 have hp : 0 ≤ nd.base * 2 ^ (k.toNat - 1) := Int.mul_nonneg (by omega) (Int.pow_nonneg (by omega))
 split
 · omega
 · split
   · have : min nd.cap (nd.base * 2 ^ (k.toNat - 1)) ≤ nd.cap := Int.min_le_left _ _
     have : 0 ≤ min nd.cap (nd.base * 2 ^ (k.toNat - 1)) := by omega
     omega
   · omega
end FK
namespace Go.Proofs.YtmeegfamopaljaaGreatDoor
open Go Go.RowKit Go.SL
theorem ww (ba ca ji k seed : Int) : eO ba ca ji k seed = FK.eM ba ca ji k seed := rfl
theorem j6 {f : FK.Flow} (h : FK.Fit f) : ∀ n ∈ f.nodes, (i64 n.budget ∧ i64 n.close ∧ i64 n.beat ∧ i64 n.base ∧ i64 n.cap ∧ i64 n.jitter) ∧ ∀ x ∈ n.after, i64 x := fun n hn => by
 obtain ⟨a1, a2, ⟨b1, b2⟩, ⟨c1, c2⟩, ⟨d1, d2⟩, ⟨e1, e2⟩, f1, f2⟩ := h.node hn
 have h12 := h.head.2.2
 refine ⟨⟨?_, ?_, ?_, ?_, ?_, ?_⟩, fun x hx => ?_⟩
 all_goals first | (unfold i64; omega) | (have := h.after n hn x hx; unfold i64; omega)
theorem rK {e : Nat} {p : EA} {S : FK.En} (h : FK.Ok S) {id k : Nat} {wh : Int} {R : FK.Rn} {s : FK.Sp} (hR : S.getR id = some R) (hs : R.steps[k]? = some s) (hsets : S.sets + 1 < 9223372036854775807) (hends : S.ends < 9223372036854775807) : Does Tryz.prog Good 234 [aL e, fZ ⟨id, (k : Int), wh⟩].toArray [ap e p S] fun v m => v = .tuple #[] ∧ m = [ap e p (S.failed id k)] := by
 obtain ⟨nd, hn, hp⟩ := h.node hR hs
 have hr := h.run id R hR
 have db := List.mem_of_getElem? hn
 have hok := hr.fl.node db
 have h12 := hr.fl.head.2.2
 have hw := FK.vW hok s.tries S.seed
 have hq := h.queueLe
 have ht := h.tmsLe
 obtain ⟨a1, a2, ⟨b1, b2⟩, ⟨c1, c2⟩, ⟨d1, d2⟩, ⟨e1, e2⟩, f1, f2⟩ := hok
 refine (ux (G := Good) (wh := wh) (fun E w hE hw => hE.tab w hw) hR hs hn hr.len h12 hr.fl.after (j6 hr.fl) (by omega) (by omega) hends h.now hsets h.seed d1 e1 e2 f1 f2 (by rw [ww]; omega)).mono ?_
 rintro v m ⟨rfl, ⟨h1, rfl⟩ | ⟨h1, left, T, ho, hst, rfl⟩⟩
 · refine ⟨_, ⟨rfl, rfl⟩, ?_⟩
   rw [FK.gG hR hs hn, if_pos h1]
   exact Ent.refl _
 · refine ⟨_, ⟨rfl, rfl⟩, ?_⟩
   rw [FK.gG hR hs hn, if_neg (by omega), FK.Bd h hR ho hst]
   exact Ent.refl _
theorem vk {e : Nat} {p : EA} {S : FK.En} (h : FK.Ok S) {id k : Nat} {q : List FK.Pl} {R : FK.Rn} {s : FK.Sp} {nd : FK.Node} (hq : S.queue = ⟨id, (k : Int), 0⟩ :: q) (hR : S.getR id = some R) (hs : R.steps[k]? = some s) (hn : R.fl.nodes[k]? = some nd) (hsets : S.sets + 1 < 9223372036854775807) (htok : S.lastToken < 9223372036854775807) : Does Tryz.prog Good 101 [aL e].toArray [ap e p S] fun v m => v = .tuple #[jn id k (s.tries + 1) (S.lastToken + 1), .bool true] ∧ m = [ap e p (S.hand ⟨id, (k : Int), 0⟩ q R s nd)] := by
 have hp := (h.run id R hR).sp k s nd hs hn
 have ht := h.tmsLe
 obtain ⟨a1, a2, ⟨b1, b2⟩, ⟨c1, c2⟩, _⟩ := (h.run id R hR).fl.node (List.mem_of_getElem? hn)
 have h1 := hp.tr0
 have h2 := hp.trb
 exact t6 hq hR hs hn h.now (by omega) (by omega) (by omega) hsets (by omega) htok (fun t ht => (h.tlow t ht).2) h1 (by omega)
theorem mF {e : Nat} {p : EA} {S : FK.En} (h : FK.Ok S) {t : Nat} {P : FK.Pl} (ht : (S.tasks.find? (·.1 == t)).map (·.2) = some P) (hends : S.ends < 9223372036854775807) : Does Tryz.prog Good 207 [aL e, bc t].toArray [ap e p S] fun v m => v = .tuple #[] ∧ m = [ap e p (S.complete t)] := by
 obtain ⟨id, k, R, s, n, rfl, hR, hs, hn, _⟩ := h.find ht
 have hr := h.run id R hR
 have hq := h.queueLe
 have htm := h.tmsLe
 have h12 := hr.fl.head.2.2
 exact oK ht hR hs hr.len hr.fl.after (by omega) (by omega) (by omega) hends
theorem Bi {e : Nat} {p : EA} {S : FK.En} (h : FK.Ok S) {t id k : Nat} {wh : Int} {R : FK.Rn} {nd : FK.Node} (ht : (S.tasks.find? (·.1 == t)).map (·.2) = some ⟨id, (k : Int), wh⟩) (hR : S.getR id = some R) (hn : R.fl.nodes[k]? = some nd) (hsets : S.sets < 9223372036854775807) : Does Tryz.prog Good 206 [aL e, bc t].toArray [ap e p S] fun v m => v = .tuple #[] ∧ m = [ap e p (S.life ⟨id, (k : Int), wh⟩ nd)] := by
 have htm := h.tmsLe
 obtain ⟨_, _, _, ⟨c1, c2⟩, _⟩ := (h.run id R hR).fl.node (List.mem_of_getElem? hn)
 exact xF ht hR hn h.now (by omega) hsets (by omega)
theorem xD {e : Nat} {p : EA} {S : FK.En} (h : FK.Ok S) {id : Nat} {R : FK.Rn} (hR : S.getR id = some R) (hends : S.ends < 9223372036854775807) : Does Tryz.prog Good 209 [aL e, bc id].toArray [ap e p S] fun v m => v = .tuple #[] ∧ m = [ap e p (S.finish id 4)] := by
 have hr := h.run id R hR
 have hq := h.queueLe
 have htm := h.tmsLe
 have h12 := hr.fl.head.2.2
 have hl := hr.len
 exact s5 hR (by omega) (by omega) (by omega) hends
theorem xk {e : Nat} {p : EA} {S : FK.En} (h : FK.Ok S) {id : Nat} {R : FK.Rn} (st : Int) (hR : S.getR id = some R) (hends : S.ends < 9223372036854775807) : Does Tryz.prog Good 235 [aL e, bc id, .int .i64 st].toArray [ap e p S] fun v m => v = .tuple #[] ∧ m = [ap e p (S.finish id st)] := by
 have hr := h.run id R hR
 have hq := h.queueLe
 have htm := h.tmsLe
 have h12 := hr.fl.head.2.2
 have hl := hr.len
 exact jI hR (by omega) (by omega) (by omega) hends
theorem y0 {e : Nat} {p : EA} {S : FK.En} (h : FK.Ok S) {id : Nat} {R : FK.Rn} (hR : S.getR id = some R) : Does Tryz.prog Good 105 [aL e, bc id].toArray [ap e p S] fun v m => ∃ v2 v3, v = .tuple #[.agg (cB id R.state v2 v3).toArray, .bool true] ∧ m = [ap e p S, bh v2 (R.steps.map (·.state)), bh v3 (R.steps.map (·.tries))] := by
 have hr := h.run id R hR
 have h12 := hr.fl.head.2.2
 have hl := hr.len
 exact sy hR (by omega)
set_option maxRecDepth 10000 in
theorem vC {e : Nat} {p : EA} {S : FK.En} (h : FK.Ok S) {t : Nat} {P : FK.Pl} (ht : (S.tasks.find? (·.1 == t)).map (·.2) = some P) (hsets : S.sets + 1 < 9223372036854775807) (hends : S.ends < 9223372036854775807) : Does Tryz.prog Good 208 [aL e, bc t].toArray [ap e p S] fun v m => v = .tuple #[] ∧ m = [ap e p (S.fail t)] := by
 obtain ⟨id, k, R, s, n, rfl, hR, hs, hn, _⟩ := h.find ht
 rw [FK.kO ht]
 refine Does.body Tryz.func208 Z Z fun E fr hE => ?_
 refine ai (At.region (L.mv Z Z (L.mv Z Z (aN Z Z (aE 2 Z Z Z ?_)))))
 refine L.val Z (aa (v := .map (some p.tm)) Z Z) (aQ fun _ _ _ => rfl) ?_
 refine L.mv Z Z (L.val Z (eB (m := cm S) Z dD Z Z (yi ht)) j9 (L.op Z (ah Z Z Z hE (rK h hR hs hsets hends) (Ent.refl _) ?_)))
 rintro v m ⟨rfl, rfl⟩
 refine ai (L.nil ?_)
 exact aZ [_] rfl ⟨rfl, rfl⟩ (Ent.refl _)
end Go.Proofs.YtmeegfamopaljaaGreatDoor

namespace FK
end FK
namespace Go.Proofs.YtmeegfamopaljaaGreatDoor
open Go Go.RowKit Go.SL
set_option maxRecDepth 10000 in
set_option maxHeartbeats 1000000 in
theorem vd {e : Nat} {p : EA} {S : FK.En} (h : FK.Ok S) {n : Nat} (hn : n < 18446744073709551616) (hsets : S.sets ≤ 4611686018427387904) (hends : S.ends ≤ 4611686018427387904) : Does Tryz.prog Good 210 [aL e, bc n].toArray [ap e p S] fun v m => v = .tuple #[] ∧ ∃ U, FK.Ticks (S.later n) S U ∧ m = [ap e p U] := by
 have hmass := h.massLe
 have hnow := h.now
 obtain ⟨up, hup⟩ : ∃ up, up = S.later n := ⟨_, rfl⟩
 have hup' : up = min (S.now + n) 4611686018427387904 := hup
 rw [← hup]
 obtain ⟨q, hq⟩ : ∃ q, q = (S.now + n) % 18446744073709551616 := ⟨_, rfl⟩
 refine Does.body Tryz.func210 Z Z fun E fr hE => ?_
 refine ai (At.seq (At.region (L.mv Z Z (aN Z Z (aE 6 Z Z Z ?_)))))
 refine L.val Z (aa Z Z) (aQ fun _ _ _ => rfl) ?_
 refine L.op Z (ah Z Z Z hE vq (Ent.refl _) ?_)
 rintro v m ⟨rfl, rfl⟩
 refine ai (L.as Z Z (L.nil (At.then (At.seq (At.region (L.mv Z Z (L.mv Z Z ?_)))))))
 refine L.pure Z (aO (r := (q : Int)) Z Z (by rw [lE]; omega)) ?_
 refine L.as Z Z (L.nil (At.then ?_))
 refine At.seq (At.cut (X := Nat) (fun y => [(5, .int .u64 y), (0, aL e)]) (fun _ => ap e p S :: fr) (fun y => min y 4611686018427387904 = up) ?_ ?_)
 ·
  refine At.seq (At.region (L.mv Z Z (L.mv Z Z (L.pure Z (bf Z Z Z) (L.nil (At.then ?_))))))
  refine aC Z (fun c19 => ?_) (fun c19 => ?_)
  ·
   refine At.region (L.as Z Z (L.nil ?_))
   exact bk 4611686018427387904 (by omega) ⟨rfl, rfl, trivial⟩ (Ent.refl _)
  ·
   refine At.skip ?_
   exact bk q (by rw [hup']; omega) ⟨rfl, rfl, trivial⟩ (Ent.refl _)
 intro y hy
 refine At.seq (At.region (L.mv Z Z ?_))
 refine L.pure Z (tt (r := (up : Int)) Z Z (by omega)) ?_
 refine L.as Z Z (L.nil (At.then (At.block ?_)))
 refine aT (X := FK.En) (fun _ => [(5, .int .u64 up), (0, aL e)]) (fun T => ap e p T :: fr) (fun T => FK.Ok T ∧ T.now ≤ up ∧ T.sets + T.mass ≤ S.sets + S.mass ∧ T.ends + T.mass ≤ S.ends + S.mass ∧ ∀ U, FK.Ticks up T U → FK.Ticks up S U) (fun T => T.mass) S ⟨h, by omega, Nat.le_refl _, Nat.le_refl _, fun _ h => h⟩ ⟨rfl, rfl, trivial⟩ (Ent.refl _) ?_
 rintro T ⟨hT, hTn, hTs, hTe, hTU⟩
 replace hTn : T.now ≤ up := hTn
 refine At.block (At.seq ?_)
 by_cases HD : ∀ y ∈ T.tms, up < y.2
 ·
  refine At.region (L.mv Z Z (aN Z Z (aE 6 Z Z Z ?_)))
  refine L.val Z (aa Z Z) (aQ fun _ _ _ => rfl) ?_
  refine L.mv Z Z ?_
  refine L.op Z (ah Z Z Z hE (vj up hTn (by omega) (by omega) (by have := hT.tmsLe; omega)) (Ent.refl _) ?_)
  rintro v m hP
  obtain ⟨rfl, rfl⟩ : v = .tuple #[fZ ⟨0, 0, 0⟩, .int .u64 0, .bool false] ∧ m = [ap e p { T with now := up }] := by
   rcases hP with ⟨x, tms', hm, hle, _, _⟩ | ⟨_, h1, h2⟩
   · have := HD x hm.mem; omega
   · exact ⟨h1, h2⟩
  refine ai (L.mv Z Z (L.ex Z Z Z (L.ex Z Z Z (L.ex Z Z Z (L.op Z (aH (z := .agg #[.int .u64 0, .int .i64 0, .int .i64 0]) Z Z fun b6 => ?_))))))
  refine L.op Z (aG (vs := fE ⟨0, 0, 0⟩) Z (m := 3) Z Z Z Z (by simp [Value.oneCell']) (by show 0 + 3 ≤ 3; omega) ?_)
  refine L.as Z Z (L.as Z Z (L.nil (At.then (At.block (At.seq (At.region (L.mv Z Z (L.pure Z (ck Z Z) (L.as Z Z (L.nil (At.then (aR Z (At.ret (aB (aB (bT (aB ?_)))))))))))))))))
  exact aZ [_] rfl ⟨rfl, _, hTU _ (.done HD), rfl⟩ Ent.drop
 ·
  refine At.region (L.mv Z Z (aN Z Z (aE 6 Z Z Z ?_)))
  refine L.val Z (aa Z Z) (aQ fun _ _ _ => rfl) ?_
  refine L.mv Z Z ?_
  refine L.op Z (ah Z Z Z hE (vj up hTn (by omega) (by omega) (by have := hT.tmsLe; omega)) (Ent.refl _) ?_)
  rintro v m hP
  obtain ⟨x, tms', hm, hle, rfl, rfl⟩ : ∃ (x : FK.KD) (tms' : List FK.KD), FK.IsMin T.tms x tms' ∧ x.2 ≤ up ∧ v = .tuple #[fZ x.1, .int .u64 x.2, .bool true] ∧ m = [ap e p { T with now := x.2, tms := tms' }] := by
   rcases hP with h | ⟨h1, _⟩
   · exact h
   · exact absurd h1 HD
  refine ai (L.mv Z Z (L.ex Z Z Z (L.ex Z Z Z (L.ex Z Z Z (L.op Z (aH (z := .agg #[.int .u64 0, .int .i64 0, .int .i64 0]) Z Z fun b6 => ?_))))))
  refine L.op Z (aG (vs := fE x.1) Z (m := 3) Z Z Z Z (by simp [Value.oneCell']) (by show 0 + 3 ≤ 3; omega) ?_)
  refine L.as Z Z (L.as Z Z (L.nil (At.then (At.block (At.seq (ax b6 (fE x.1).toArray Z ?_))))))
  obtain ⟨hp1, hp2, R, hR, hat⟩ := hT.pop hm
  obtain ⟨W, hW⟩ : ∃ W : FK.En, W = { T with now := x.2, tms := tms' } := ⟨_, rfl⟩
  have hWm : W.mass = T.mass := by rw [hW]; rfl
  have hWs : W.sets = T.sets := by rw [hW]
  have hWe : W.ends = T.ends := by rw [hW]
  have hRW : W.getR x.1.run = some R := by rw [hW]; exact hR
  have hnoW : ∀ y ∈ W.tms, y.1 ≠ x.1 := by rw [hW]; exact hp2
  rw [← hW] at hp1 ⊢
  have hless := hp1.due_less hRW hat
  have hdue := hp1.due hRW hat hnoW
  have hstep : ∀ U, FK.Ticks up (W.due x.1) U → FK.Ticks up S U := fun U hU => hTU U (.step hm hle (hW ▸ hU))
  have hl1 := hless.mass
  have hl2 := hless.sets
  have hl3 := hless.ends
  have hnow2 : (W.due x.1).now ≤ up := by rw [hless.now, hW]; exact hle
  refine At.region (L.mv Z Z (L.pure Z (ck Z Z) (L.as Z Z (L.nil (At.then (aj Z (At.seq (At.region (aE 2 Z Z Z (aX Z Z Z Z (L.pure Z (aV Z Z Z) (L.as Z Z (L.nil (At.then ?_))))))))))))))
  refine aC Z (fun c38 => ?_) (fun c38 => ?_)
  ·
   obtain ⟨hpe, hde⟩ : x.1 = ⟨x.1.run, -1, 0⟩ ∧ W.due x.1 = W.finish x.1.run 5 := by
    rcases FK.fQ hRW hat with h | ⟨k, s, hs, ⟨h1, _, _⟩ | ⟨h1, _, _⟩⟩
    · exact h
    · rw [h1] at c38; exact absurd (show (1 : Int) = 0 from c38) (by decide)
    · rcases h1 with h1 | h1
      · rw [h1] at c38; exact absurd (show (1 : Int) = 0 from c38) (by decide)
      · rw [h1] at c38; exact absurd (show (2 : Int) = 0 from c38) (by decide)
   refine At.region (L.mv Z Z (aE 0 Z Z Z (aX Z Z Z Z ?_)))
   refine L.op Z (ah Z Z Z hE (xk hp1 5 hRW (by omega)) (Ent.sel (.tail .head)) ?_)
   rintro v m ⟨rfl, rfl⟩
   refine ai (L.nil (al (al ?_)))
   exact At.round (W.due x.1) ⟨hdue, hnow2, by omega, by omega, hstep⟩ (by omega) ⟨rfl, rfl, trivial⟩ (by rw [hde]; exact Ent.cons Ent.drop)
  ·
   obtain ⟨k, s, hs, hpk, hde⟩ : ∃ (k : Nat) (s : FK.Sp), R.steps[k]? = some s ∧ x.1.node = (k : Int) ∧ ((s.state = 4 ∧ W.due x.1 = W.ready x.1.run k) ∨ (s.state = 3 ∧ W.due x.1 = W.failed x.1.run k)) := by
    rcases FK.fQ hRW hat with ⟨h1, _⟩ | ⟨k, s, hs, ⟨h1, h2, h3⟩ | ⟨h1, h2, h3⟩⟩
    · rw [h1] at c38; exact absurd rfl c38
    · exact ⟨k, s, hs, by rw [h1], .inl ⟨h2, h3⟩⟩
    · exact ⟨k, s, hs, by rcases h1 with h1 | h1 <;> rw [h1], .inr ⟨h2, h3⟩⟩
   obtain ⟨⟨id, nd, wh⟩, at_⟩ := x
   simp only at hpk hRW hde hl1 hl2 hl3 hnow2 hdue hstep
   subst hpk
   refine At.seq (Dr.start Z (dP 0 Z Z (ag Z) (dP 1 Z Z (aq Z) (dP 2 Z Z (ab (off := 1) Z Z) ?_))))
   refine dL 3 Z Z (aa Z Z) (aQ fun _ _ _ => rfl) ?_
   refine dP 4 Z Z (ab (off := 0) Z Z) (dL 5 Z Z (aa Z Z) (ae Z) (dL 6 Z Z (eB (a := id) (v := aL (p.fb id)) Z dD Z Z (eS hRW)) cS (dP 7 Z Z (ab (off := 1) Z Z) (dL 8 Z Z (aa Z Z) (ae Z) (dR 9 Z Z (cK Z Z Z Z Z Z fun b56 => ?_))))))
   refine Dr.kept [true, true, true, true] (by kernel_rfl) (Kept.cons (ae Z) (Kept.cons cS (Kept.cons (ae Z) (Kept.cons (aQ fun _ _ _ => rfl) Kept.nil)))) ?_
   refine dR 10 Z Z (ah Z Z Z hE (mW [4] (some ⟨b56, 0, none⟩) 1 hRW hs) ((aK (.tail (.tail .head)) .head).trans (Ent.cons (el (xs := [4]) (show 1 ≤ 9223372036854775807 by omega)))) ?_)
   rintro v m ⟨rfl, rfl⟩
   refine ai ?_
   refine Dr.kept [false, false, true, true] (by kernel_rfl) (Kept.cons (ae Z) (Kept.cons (aQ fun _ _ _ => rfl) Kept.nil)) ?_
   refine dP 11 Z Z (az Z) (dE (At.then ?_))
   refine aC Z (fun c46 => ?_) (fun c46 => ?_)
   ·
    have h4 : s.state = 4 := by simpa using c46
    have hde2 : W.due ⟨id, (k : Int), wh⟩ = W.ready id k := by rcases hde with h | h; exact h.2; omega
    refine At.region (L.mv Z Z ?_)
    refine L.val Z (am (vs := fE ⟨id, (k : Int), wh⟩) Z Z Z Z) (av Z) ?_
    refine L.op Z (ah Z Z Z hE (nX (wh := wh) hRW hs (by have := hp1.queueLe; omega)) (Ent.refl _) ?_)
    rintro v m ⟨rfl, rfl⟩
    refine ai (L.nil (al (al ?_)))
    exact At.round (W.due ⟨id, (k : Int), wh⟩) ⟨hdue, hnow2, by omega, by omega, hstep⟩ (by omega) ⟨rfl, rfl, trivial⟩ (by rw [hde2]; exact Ent.cons Ent.drop)
   ·
    have h4 : ¬ s.state = 4 := by simpa using c46
    have hde2 : W.due ⟨id, (k : Int), wh⟩ = W.failed id k := by rcases hde with h | h; omega; exact h.2
    refine At.region (L.mv Z Z ?_)
    refine L.val Z (am (vs := fE ⟨id, (k : Int), wh⟩) Z Z Z Z) (av Z) ?_
    refine L.op Z (ah Z Z Z hE (rK hp1 (wh := wh) hRW hs (by omega) (by omega)) (Ent.refl _) ?_)
    rintro v m ⟨rfl, rfl⟩
    refine ai (L.nil (al (al ?_)))
    exact At.round (W.due ⟨id, (k : Int), wh⟩) ⟨hdue, hnow2, by omega, by omega, hstep⟩ (by omega) ⟨rfl, rfl, trivial⟩ (by rw [hde2]; exact Ent.cons Ent.drop)
end Go.Proofs.YtmeegfamopaljaaGreatDoor

namespace FK
def aY (op n : Nat) : List UInt8 := UInt8.ofNat op :: bz n
end FK
namespace Go.Proofs.YtmeegfamopaljaaGreatDoor
open Go Go.RowKit Go.SL
abbrev gj (f e : Nat) (jv : Value) : HP := blk f 171 #[aL e, jv]
abbrev dA (f e j : Nat) : HP := gj f e (aL j)
theorem pI {b : Nat} {bs : List UInt8} {r : List HP} (h : bs.length ≤ maxLen) : Ent (blk b 5 (bO bs).toArray :: r) (bM (.slice (some ⟨b, 0, none⟩) bs.length bs.length) bs :: r) :=
 cq (Nat.le_refl _) h (by simp [bO]) (by rw [List.take_of_length_le (by simp [bO])])
theorem gZ {A : Option Addr} {c : Nat} {bs : List UInt8} (f1 : A = none → bs.length = 0 ∧ c = 0) (f2 : ∀ ad, A = some ad → ∃ g, ad = ⟨g, 0, none⟩) : Reads (bM (.slice A bs.length c) bs) A bs ∧ (A = none → bs = []) := by
 refine ⟨Reads.row fun hne => ?_, fun h => List.eq_nil_of_length_eq_zero (f1 h).1⟩
 have hp := List.length_pos_iff.2 hne
 cases A with
 | none => have := (f1 rfl).1; omega
 | some ad => obtain ⟨g, rfl⟩ := f2 ad rfl; exact ⟨g, rfl⟩
set_option maxRecDepth 10000 in
theorem pp {f e j d : Nat} {J : FK.Jn} {σ : FK.Dsk} {op n : Nat} (_hop : op < 256) (hn : n < 18446744073709551616) (hJ : J.n < 1000000) (hr : Roomy σ) : Does Tryz.prog Good 100 [aL f, .int .i64 op, bc n].toArray [dA f e j, aD j d J, ak d σ] fun v m => v = eR (J.add σ (cV (FK.frame (FK.aY op n)))).2.2 ∧ m = [dA f e j, aD j d (J.add σ (cV (FK.frame (FK.aY op n)))).1, ak d (J.add σ (cV (FK.frame (FK.aY op n)))).2.1] := by
 have hel : (FK.aY op n).length ≤ 11 := by
  have := ew (n := n) hn
  unfold FK.aY
  simp
  omega
 refine Does.body Tryz.func100 Z Z fun E fr hE => ?_
 refine cu (At.seq (At.region (L.as Z Z (L.nil (At.then (At.seq (Dr.start Z (dP 0 Z Z (ag Z) (dP 1 Z Z (aq Z) (dP 2 Z Z (ab (off := 1) Z Z) (dL 3 Z Z (aa Z Z) (ae Z) (dP 4 Z Z (ag Z) (dP 5 Z Z (bq (r := ((UInt8.ofNat op).toNat : Int)) Z Z Z (fL op)) (dP 7 Z Z (ag Z) (dR 6 Z Z (cK Z Z Z Z Z Z fun b13 => ?_))))))))))))))))
 refine Dr.kept [true] (by kernel_rfl) (Kept.cons (ae Z) Kept.nil) ?_
 refine dR 8 Z Z (ah Z Z Z hE (ep (.slice (some ⟨b13, 0, none⟩) 1 1) [UInt8.ofNat op] n hn (by simp)) (pI (bs := [UInt8.ofNat op]) (by unfold maxLen; simp)) ?_)
 rintro v m rfl
 refine ai (At.ent (l' := bM v (FK.aY op n) :: dA f e j :: aD j d J :: ak d σ :: fr) (Ent.refl _) (aJ .head ?_))
 rintro A c rfl f1 f2 - - -
 obtain ⟨hreads, hnil⟩ := gZ f1 f2
 refine Dr.kept [true] (by kernel_rfl) (Kept.cons (ae Z) Kept.nil) ?_
 refine dR 9 Z Z (ah Z Z Z hE (rZ c hJ hreads hnil (by omega) hr) (bX (.tail (.tail .head)) (.tail (.tail .head)) .head) ?_)
 rintro v m ⟨hv, rfl⟩
 refine cu ?_
 refine Dr.kept [false] (by kernel_rfl) Kept.nil ?_
 refine dP 10 Z Z (az Z) (dE (At.then (At.ret ?_)))
 exact aA [dA f e j, aD j d (J.add σ (cV (FK.frame (FK.aY op n)))).1, ak d (J.add σ (cV (FK.frame (FK.aY op n)))).2.1] rfl Z ⟨hv, rfl⟩ (by show Ent (aD j d _ :: ak d _ :: _ :: dA f e j :: fr) _; exact (Ent.sel (.tail (.tail (.tail .head)))).trans (Ent.cons (Ent.cons (Ent.cons Ent.drop))))
set_option maxRecDepth 10000 in
theorem zK {f e n : Nat} {jv : Value} {p : EA} {S : FK.En} {Q : FK.En → Prop} (hC : Does Tryz.prog Good 101 [aL e].toArray [ap e p S] fun v m => (∃ u, v = u) ∧ ∃ U, Q U ∧ m = [ap e p U]) : Does Tryz.prog Good 166 [aL f, .int .i64 2, bc n].toArray [gj f e jv, ap e p S] fun v m => v = .tuple #[] ∧ ∃ U, Q U ∧ m = [gj f e jv, ap e p U] := by
 refine Does.body Tryz.func166 Z Z fun E fr hE => ?_
 refine aF (At.seq (At.region (L.mv Z Z (L.nil (At.then (At.block (At.seq (At.region (L.pure Z (aV Z Z Z) (L.as Z Z (L.nil (At.then (aR Z (At.region (L.mv Z Z (aN Z Z (aE 0 Z Z Z (aX Z Z Z Z (L.op Z (ah Z Z Z hE hC (Ent.sel (.tail .head)) ?_))))))))))))))))))))
 rintro v m ⟨-, U, hU, rfl⟩
 refine ai (L.nil (al ?_))
 exact aZ [gj f e jv, ap e p U] rfl ⟨rfl, U, hU, rfl⟩ (Ent.sel (.tail .head))
set_option maxRecDepth 10000 in
theorem zJ {f e n : Nat} {jv : Value} {p : EA} {S : FK.En} {Q : FK.En → Prop} (hC : Does Tryz.prog Good 206 [aL e, bc n].toArray [ap e p S] fun v m => (v = .tuple #[]) ∧ ∃ U, Q U ∧ m = [ap e p U]) : Does Tryz.prog Good 166 [aL f, .int .i64 3, bc n].toArray [gj f e jv, ap e p S] fun v m => v = .tuple #[] ∧ ∃ U, Q U ∧ m = [gj f e jv, ap e p U] := by
 refine Does.body Tryz.func166 Z Z fun E fr hE => ?_
 refine aF (At.seq (At.region (L.mv Z Z (L.nil (At.then (At.block (At.seq (At.region (L.pure Z (aV Z Z Z) (L.as Z Z (L.nil (At.then (aj Z (At.seq (At.region (L.pure Z (aV Z Z Z) (L.as Z Z (L.nil (At.then ?_)))))))))))))))))))
 refine aR Z (At.region (L.mv Z Z (aN Z Z (aE 0 Z Z Z (aX Z Z Z Z (L.mv Z Z (L.op Z (ah Z Z Z hE hC (Ent.sel (.tail .head)) ?_))))))))
 rintro v m ⟨-, U, hU, rfl⟩
 refine ai (L.nil (al ?_))
 exact aZ [gj f e jv, ap e p U] rfl ⟨rfl, U, hU, rfl⟩ (Ent.sel (.tail .head))
set_option maxRecDepth 10000 in
theorem rS {f e n : Nat} {jv : Value} {p : EA} {S : FK.En} {Q : FK.En → Prop} (hC : Does Tryz.prog Good 207 [aL e, bc n].toArray [ap e p S] fun v m => (v = .tuple #[]) ∧ ∃ U, Q U ∧ m = [ap e p U]) : Does Tryz.prog Good 166 [aL f, .int .i64 4, bc n].toArray [gj f e jv, ap e p S] fun v m => v = .tuple #[] ∧ ∃ U, Q U ∧ m = [gj f e jv, ap e p U] := by
 refine Does.body Tryz.func166 Z Z fun E fr hE => ?_
 refine aF (At.seq (At.region (L.mv Z Z (L.nil (At.then (At.block (At.seq (At.region (L.pure Z (aV Z Z Z) (L.as Z Z (L.nil (At.then (aj Z (At.seq (At.region (L.pure Z (aV Z Z Z) (L.as Z Z (L.nil (At.then ?_)))))))))))))))))))
 refine aj Z (At.seq (At.region (L.pure Z (aV Z Z Z) (L.as Z Z (L.nil (At.then (aR Z (At.region (L.mv Z Z (aN Z Z (aE 0 Z Z Z (aX Z Z Z Z (L.mv Z Z (L.op Z (ah Z Z Z hE hC (Ent.sel (.tail .head)) ?_)))))))))))))))
 rintro v m ⟨-, U, hU, rfl⟩
 refine ai (L.nil (al ?_))
 exact aZ [gj f e jv, ap e p U] rfl ⟨rfl, U, hU, rfl⟩ (Ent.sel (.tail .head))
set_option maxRecDepth 10000 in
theorem rR {f e n : Nat} {jv : Value} {p : EA} {S : FK.En} {Q : FK.En → Prop} (hC : Does Tryz.prog Good 208 [aL e, bc n].toArray [ap e p S] fun v m => (v = .tuple #[]) ∧ ∃ U, Q U ∧ m = [ap e p U]) : Does Tryz.prog Good 166 [aL f, .int .i64 5, bc n].toArray [gj f e jv, ap e p S] fun v m => v = .tuple #[] ∧ ∃ U, Q U ∧ m = [gj f e jv, ap e p U] := by
 refine Does.body Tryz.func166 Z Z fun E fr hE => ?_
 refine aF (At.seq (At.region (L.mv Z Z (L.nil (At.then (At.block (At.seq (At.region (L.pure Z (aV Z Z Z) (L.as Z Z (L.nil (At.then (aj Z (At.seq (At.region (L.pure Z (aV Z Z Z) (L.as Z Z (L.nil (At.then ?_)))))))))))))))))))
 refine aj Z (At.seq (At.region (L.pure Z (aV Z Z Z) (L.as Z Z (L.nil (At.then (aj Z (At.seq (At.region (L.pure Z (aV Z Z Z) (L.as Z Z (L.nil (At.then (aR Z (At.region (L.mv Z Z (aN Z Z (aE 0 Z Z Z (aX Z Z Z Z ?_)))))))))))))))))))
 refine L.mv Z Z (L.op Z (ah Z Z Z hE hC (Ent.sel (.tail .head)) ?_))
 rintro v m ⟨-, U, hU, rfl⟩
 refine ai (L.nil (al ?_))
 exact aZ [gj f e jv, ap e p U] rfl ⟨rfl, U, hU, rfl⟩ (Ent.sel (.tail .head))
set_option maxRecDepth 10000 in
theorem zI {f e n : Nat} {jv : Value} {p : EA} {S : FK.En} {Q : FK.En → Prop} (hC : Does Tryz.prog Good 209 [aL e, bc n].toArray [ap e p S] fun v m => (v = .tuple #[]) ∧ ∃ U, Q U ∧ m = [ap e p U]) : Does Tryz.prog Good 166 [aL f, .int .i64 6, bc n].toArray [gj f e jv, ap e p S] fun v m => v = .tuple #[] ∧ ∃ U, Q U ∧ m = [gj f e jv, ap e p U] := by
 refine Does.body Tryz.func166 Z Z fun E fr hE => ?_
 refine aF (At.seq (At.region (L.mv Z Z (L.nil (At.then (At.block (At.seq (At.region (L.pure Z (aV Z Z Z) (L.as Z Z (L.nil (At.then (aj Z (At.seq (At.region (L.pure Z (aV Z Z Z) (L.as Z Z (L.nil (At.then ?_)))))))))))))))))))
 refine aj Z (At.seq (At.region (L.pure Z (aV Z Z Z) (L.as Z Z (L.nil (At.then (aj Z (At.seq (At.region (L.pure Z (aV Z Z Z) (L.as Z Z (L.nil (At.then (aj Z (At.seq (At.region (L.pure Z (aV Z Z Z) (L.as Z Z (L.nil ?_)))))))))))))))))))
 refine At.then (aR Z (At.region (L.mv Z Z (aN Z Z (aE 0 Z Z Z (aX Z Z Z Z (L.mv Z Z (L.op Z (ah Z Z Z hE hC (Ent.sel (.tail .head)) ?_)))))))))
 rintro v m ⟨-, U, hU, rfl⟩
 refine ai (L.nil (al ?_))
 exact aZ [gj f e jv, ap e p U] rfl ⟨rfl, U, hU, rfl⟩ (Ent.sel (.tail .head))
set_option maxRecDepth 10000 in
theorem rQ {f e n : Nat} {jv : Value} {p : EA} {S : FK.En} {Q : FK.En → Prop} (hC : Does Tryz.prog Good 210 [aL e, bc n].toArray [ap e p S] fun v m => (v = .tuple #[]) ∧ ∃ U, Q U ∧ m = [ap e p U]) : Does Tryz.prog Good 166 [aL f, .int .i64 7, bc n].toArray [gj f e jv, ap e p S] fun v m => v = .tuple #[] ∧ ∃ U, Q U ∧ m = [gj f e jv, ap e p U] := by
 refine Does.body Tryz.func166 Z Z fun E fr hE => ?_
 refine aF (At.seq (At.region (L.mv Z Z (L.nil (At.then (At.block (At.seq (At.region (L.pure Z (aV Z Z Z) (L.as Z Z (L.nil (At.then (aj Z (At.seq (At.region (L.pure Z (aV Z Z Z) (L.as Z Z (L.nil (At.then ?_)))))))))))))))))))
 refine aj Z (At.seq (At.region (L.pure Z (aV Z Z Z) (L.as Z Z (L.nil (At.then (aj Z (At.seq (At.region (L.pure Z (aV Z Z Z) (L.as Z Z (L.nil (At.then (aj Z (At.seq (At.region (L.pure Z (aV Z Z Z) (L.as Z Z (L.nil ?_)))))))))))))))))))
 refine At.then (aj Z (At.seq (At.region (L.pure Z (aV Z Z Z) (L.as Z Z (L.nil (At.then (aR Z (At.region (L.mv Z Z (aN Z Z (aE 0 Z Z Z (aX Z Z Z Z (L.mv Z Z (L.op Z (ah Z Z Z hE hC (Ent.sel (.tail .head)) ?_))))))))))))))))
 rintro v m ⟨-, U, hU, rfl⟩
 refine ai (L.nil (al ?_))
 exact aZ [gj f e jv, ap e p U] rfl ⟨rfl, U, hU, rfl⟩ (Ent.sel (.tail .head))
set_option maxRecDepth 10000 in
theorem zH {f e n : Nat} {jv : Value} {p : EA} {S : FK.En} {Q : FK.En → Prop} (hC : Does Tryz.prog Good 211 [aL e, bc n].toArray [ap e p S] fun v m => (v = .tuple #[]) ∧ ∃ U, Q U ∧ m = [ap e p U]) : Does Tryz.prog Good 166 [aL f, .int .i64 8, bc n].toArray [gj f e jv, ap e p S] fun v m => v = .tuple #[] ∧ ∃ U, Q U ∧ m = [gj f e jv, ap e p U] := by
 refine Does.body Tryz.func166 Z Z fun E fr hE => ?_
 refine aF (At.seq (At.region (L.mv Z Z (L.nil (At.then (At.block (At.seq (At.region (L.pure Z (aV Z Z Z) (L.as Z Z (L.nil (At.then (aj Z (At.seq (At.region (L.pure Z (aV Z Z Z) (L.as Z Z (L.nil (At.then ?_)))))))))))))))))))
 refine aj Z (At.seq (At.region (L.pure Z (aV Z Z Z) (L.as Z Z (L.nil (At.then (aj Z (At.seq (At.region (L.pure Z (aV Z Z Z) (L.as Z Z (L.nil (At.then (aj Z (At.seq (At.region (L.pure Z (aV Z Z Z) (L.as Z Z (L.nil ?_)))))))))))))))))))
 refine At.then (aj Z (At.seq (At.region (L.pure Z (aV Z Z Z) (L.as Z Z (L.nil (At.then (aj Z (At.seq (At.region (L.pure Z (aV Z Z Z) (L.as Z Z (L.nil (At.then (aR Z (At.region (L.mv Z Z (aN Z Z (aE 0 Z Z Z ?_)))))))))))))))))))
 refine aX Z Z Z Z (L.mv Z Z (L.op Z (ah Z Z Z hE hC (Ent.sel (.tail .head)) ?_)))
 rintro v m ⟨-, U, hU, rfl⟩
 refine ai (L.nil (al ?_))
 exact aZ [gj f e jv, ap e p U] rfl ⟨rfl, U, hU, rfl⟩ (Ent.sel (.tail .head))
def CallPost (f e j d : Nat) (p : EA) (S : FK.En) (J : FK.Jn) (σ : FK.Dsk) (op n : Nat) (Q : FK.En → Prop) (v : Value) (m : List HP) : Prop :=
 v = eR (J.add σ (cV (FK.frame (FK.aY op n)))).2.2 ∧ ∃ U, ((J.add σ (cV (FK.frame (FK.aY op n)))).2.2 = 0 → Q U) ∧ ((J.add σ (cV (FK.frame (FK.aY op n)))).2.2 ≠ 0 → U = S) ∧ m = [dA f e j, ap e p U, aD j d (J.add σ (cV (FK.frame (FK.aY op n)))).1, ak d (J.add σ (cV (FK.frame (FK.aY op n)))).2.1]
set_option maxRecDepth 10000 in
theorem lS {f e j d : Nat} {p : EA} {S : FK.En} {J : FK.Jn} {σ : FK.Dsk} {op n : Nat} {Q : FK.En → Prop} (hop : op < 256) (hn : n < 18446744073709551616) (hJ : J.n < 1000000) (hr : Roomy σ)
 (hD : Does Tryz.prog Good 166 [aL f, .int .i64 op, bc n].toArray [dA f e j, ap e p S] fun v m => v = .tuple #[] ∧ ∃ U, Q U ∧ m = [dA f e j, ap e p U]) : Does Tryz.prog Good 104 [aL f, .int .i64 op, bc n].toArray [dA f e j, ap e p S, aD j d J, ak d σ] (CallPost f e j d p S J σ op n Q) := by
 refine Does.body Tryz.func104 Z Z fun E fr hE => ?_
 refine dj (At.seq (At.region (L.as Z Z (L.nil (At.then (At.seq (At.region (L.mv Z Z (L.mv Z Z (L.mv Z Z (L.op Z (ah Z Z Z hE (pp (e := e) (j := j) hop hn hJ hr) (Ent.cons (aK (.tail .head) (.tail .head))) ?_))))))))))))
 rintro v m ⟨hv, rfl⟩
 refine cu ?_
 generalize hω : J.add σ (cV (FK.frame (FK.aY op n))) = ω at hv ⊢
 refine L.as Z Z (L.nil (At.then (At.seq (At.seq ?_))))
 by_cases HE : ω.2.2 = 0
 ·
  replace hv := hv.trans (if_pos HE)
  subst hv
  refine At.region (L.mv Z Z (L.pure Z (g0 Z Z) (L.nil (At.then (aR Z (At.region (L.mv Z Z (L.mv Z Z (L.mv Z Z (L.op Z (ah Z Z Z hE hD (Ent.cons (Ent.sel (.tail (.tail .head)))) ?_)))))))))))
  rintro v m ⟨rfl, U, hU, rfl⟩
  refine aF (L.nil (At.then (At.seq (At.region (L.mv Z Z (L.as Z Z (L.nil (At.then (At.ret ?_)))))))))
  exact aA [dA f e j, ap e p U, aD j d ω.1, ak d ω.2.1] rfl Z (by unfold CallPost; rw [hω]; exact ⟨(if_pos HE).symm, U, fun _ => hU, fun h => absurd HE h, rfl⟩) (Ent.refl _)
 ·
  replace hv := hv.trans (if_neg HE)
  subst hv
  refine At.region (L.mv Z Z (L.pure Z (co Z Z) (L.nil (At.then (aj Z (At.skip (At.then (At.seq (At.region (L.mv Z Z (L.as Z Z (L.nil (At.then (At.ret ?_))))))))))))))
  exact aA [dA f e j, ap e p S, aD j d ω.1, ak d ω.2.1] rfl Z (by unfold CallPost; rw [hω]; exact ⟨(if_neg HE).symm, S, fun h => absurd h HE, fun _ => rfl, rfl⟩) (Ent.cons (Ent.sel (.tail (.tail .head))))
end Go.Proofs.YtmeegfamopaljaaGreatDoor
