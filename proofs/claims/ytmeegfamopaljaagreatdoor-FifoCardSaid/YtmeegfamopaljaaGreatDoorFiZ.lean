/- The walk of flow.Read. -/
import Derived.Test.YtmeegfamopaljaaGreatDoorFiY
import Derived.Test.YtmeegfamopaljaaGreatDoorFiW
import Derived.Test.YtmeegfamopaljaaGreatDoorFiI
import Derived.Shelf.Small.Bits
import Derived.Shelf.Strconv.Atoi
import Derived.Shelf.Strconv.Itoa0
import Derived.Shelf.Strconv.Itoa1
import Derived.Shelf.LaysM
import Derived.Shelf.Strconv.Itoa2
import Derived.Shelf.Strconv.Itoa3
import Derived.Shelf.Sort.Plain
import Derived.Shelf.Strings.Prefix
import Derived.Shelf.Slices.In.SortNone
import Derived.Shelf.Slices.In.SortNone2
import Derived.Test.YtmeegfamopaljaaGreatDoorChecked
namespace Go.Proofs.YtmeegfamopaljaaGreatDoor
open Go Go.RowKit Go.SL
def ReadPost (bs : List UInt8) (p : HP) (v : Value) (m : List HP) : Prop :=
  (∃ (f : FK.Flow) (A' : Option Addr) (c' : Nat), FK.dec bs = .ok f ∧ (∀ nd ∈ f.nodes, Small nd) ∧ v = .tuple #[.agg #[.int .i64 f.deadline, .slice A' f.nodes.length c'], .nilIface] ∧ m = [nodesOwn (.slice A' f.nodes.length c') f.nodes, p]) ∨
  (∃ (e a : Int) (b : Nat), FK.dec bs = .error (e, a) ∧ e ≠ 0 ∧ v = .tuple #[.agg #[.int .i64 0, .slice none 0 0], .iface 159 (.pointer (some ⟨b, 0, none⟩))] ∧ m = [blk b 164 #[.int .i64 e, .int .i64 a], p])
set_option maxRecDepth 10000 in
theorem read_does {p : HP} {A : Option Addr} {c : Nat} {bs : List UInt8} (hp : Reads p A bs) (hl : bs.length ≤ 1099511627776) :
    Does Tryz.prog Good 93 [.slice A bs.length c].toArray [p] (ReadPost bs p) := by
  refine Does.bodyF Tryz.func93 rfl rfl fun E fr hE => ?_
  refine At.app1 ?_
  refine At.seq ?_
  refine At.region ?_
  refine L.op rfl (o_alloc (z := .agg #[.int .i64 0, .slice none 0 0]) rfl rfl fun b2 => ?_)
  refine L.op rfl (o_alloc (z := .nilIface) rfl rfl fun b3 => ?_)
  refine L.nil ?_
  refine At.then ?_
  refine At.seq ?_
  refine At.region ?_
  refine L.pure rfl (ev_func rfl rfl) ?_
  refine L.op rfl (o_defer rfl ?_)
  refine L.nil ?_
  refine At.then ?_
  refine At.seq ?_
  refine At.region ?_
  refine L.mv rfl rfl ?_
  refine L.pure rfl (ev_build (ps := [(0, .tmp 7)]) (vs := [.slice A bs.length c]) (cs := #[.slice A bs.length c, .int .i64 0]) rfl rfl rfl rfl rfl) ?_
  refine L.op rfl (o_box rfl rfl fun b9 => ?_)
  refine L.as rfl rfl ?_
  refine L.nil ?_
  refine At.then ?_
  refine At.seq ?_
  refine At.region ?_
  refine L.mv rfl rfl ?_
  refine L.op rfl (o_callX rfl rfl rfl hE (reader_number (c := c) hp hl b9 0 (Nat.zero_le _)) (Ent.sel2 .head (.tail (.tail (.head)))) ?_ ?_)
  ·
    rintro c m ⟨e, q', he, rfl, rfl⟩
    refine At.app2 ?_
    refine At.thenPanic ?_
    refine At.leaveX rfl rfl hE (catch_cut b2 b3 e _ _ _) (Ent.sel2 (.tail (.tail (.tail (.head)))) (.tail (.tail (.head)))) ?_
    rintro m ⟨b, rfl⟩
    refine At.app3 ?_
    exact At.res2 [_, _] rfl (Res.cellN (vs := [.int .i64 0, .slice none 0 0]) rfl rfl rfl rfl (rowAll rfl)) (Res.cell1 rfl rfl (cellIs rfl)) (.inr ⟨1, e, b, dec_bad1 he, by omega, rfl, rfl⟩) (Ent.drop.trans (Ent.drop.trans (Ent.cons Ent.drop)))
  rintro v m ⟨n, q1, hn, rfl, rfl⟩
  refine At.app2 ?_
  refine L.fa 0 rfl rfl rfl ?_
  refine L.st rfl rfl rfl rfl (by first | decide | simp | (simp; omega)) ?_
  refine L.nil ?_
  refine At.then ?_
  refine At.seq ?_
  refine At.region ?_
  refine L.mv rfl rfl ?_
  refine L.mv rfl rfl ?_
  refine L.pure rfl (ev_func rfl rfl) ?_
  refine L.op rfl (o_callX rfl rfl rfl hE (list_node (c := c) hp hl b9 q1 (FK.rd_lt hn).2.2) (Ent.sel2 (.tail (.head)) (.tail (.head))) ?_ ?_)
  ·
    rintro c m ⟨e, q', he, rfl, rfl⟩
    refine At.app2 ?_
    refine At.thenPanic ?_
    refine At.leaveX rfl rfl hE (catch_cut b2 b3 e _ _ _) (Ent.sel2 (.tail (.tail (.head))) (.tail (.tail (.head)))) ?_
    rintro m ⟨b, rfl⟩
    refine At.app3 ?_
    exact At.res2 [_, _] rfl (Res.cellN (vs := [.int .i64 0, .slice none 0 0]) rfl rfl rfl rfl (rowAll rfl)) (Res.cell1 rfl rfl (cellIs rfl)) (.inr ⟨1, e, b, rdFlow_err hn he, by omega, rfl, rfl⟩) (Ent.drop.trans (Ent.drop.trans (Ent.cons Ent.drop)))
  rintro v m ⟨ns, q2, hns, hq2, hsm, ⟨A', c', rfl⟩, rfl⟩
  refine At.app3 ?_
  refine L.fa 1 rfl rfl rfl ?_
  refine L.st rfl rfl rfl rfl (by simp [Value.cells]) ?_
  have hflow := rdFlow_ok hn hns
  refine L.nil ?_
  refine At.then ?_
  refine At.seq ?_
  refine At.seq ?_
  refine At.region ?_
  refine L.mv rfl rfl ?_
  refine L.nc rfl rfl ?_
  refine L.fa 1 rfl rfl rfl ?_
  refine L.ld rfl rfl rfl rfl ?_
  refine L.mv rfl rfl ?_
  refine L.pure rfl (ev_lenS rfl rfl) ?_
  refine L.pure rfl (ev_lss rfl rfl rfl) ?_
  refine L.nil ?_
  refine At.then ?_
  refine At.condD rfl (fun c24 => ?_) (fun c24 => ?_)
  ·
    refine At.region ?_
    refine L.mv rfl rfl ?_
    refine L.nc rfl rfl ?_
    refine L.fa 1 rfl rfl rfl ?_
    refine L.ld rfl rfl rfl rfl ?_
    refine L.pure rfl (ev_iface rfl rfl rfl) ?_
    refine L.op rfl (o_panic rfl ?_)
    refine At.thenPanic ?_
    refine At.leaveX rfl rfl hE (catch_cut b2 b3 q2 _ _ _) (Ent.sel2 .head (.tail (.tail (.tail (.head))))) ?_
    rintro m ⟨b, rfl⟩
    refine At.app3 ?_
    exact At.res2 [_, _] rfl (Res.cellN (vs := [.int .i64 0, .slice none 0 0]) rfl rfl rfl rfl (rowAll rfl)) (Res.cell1 rfl rfl (cellIs rfl)) (.inr ⟨1, q2, b, dec_more hflow (by omega), by omega, rfl, rfl⟩) (Ent.drop.trans (Ent.drop.trans (Ent.cons (Ent.drop.trans Ent.drop))))
  ·
    refine At.skip ?_
    refine At.then ?_
    refine At.seq ?_
    refine At.seq ?_
    by_cases hc0 : (FK.chk ⟨n, ns⟩).1 = 0
    ·
      refine At.region ?_
      refine L.val rfl (ev_loadN (vs := [.int .i64 n, .slice A' ns.length c']) rfl rfl rfl rfl) (rowAll rfl) ?_
      refine L.op rfl (o_give rfl rfl rfl hE (check_gives ⟨n, ns⟩ A' c') (nodesOwn.at (.tail (.head)) fun nd hnd => (hsm nd hnd).i64) ?_)
      rintro v m hv
      obtain ⟨rfl, rfl⟩ := hv.ok hc0
      refine At.app0 ?_
      refine L.as rfl rfl ?_
      refine L.nil ?_
      refine At.then ?_
      refine At.seq ?_
      refine At.region ?_
      refine L.mv rfl rfl ?_
      refine L.pure rfl (ev_neqNil0 rfl rfl) ?_
      refine L.nil ?_
      refine At.then ?_
      refine At.condF rfl ?_
      refine At.skip ?_
      refine At.then ?_
      refine At.seq ?_
      refine At.region ?_
      refine L.val rfl (ev_loadN (vs := [.int .i64 n, .slice A' ns.length c']) rfl rfl rfl rfl) (rowAll rfl) ?_
      refine L.op rfl (o_storeN rfl (m := 2) (vs := [.int .i64 n, .slice A' ns.length c']) rfl rfl rfl rfl (by simp [Value.oneCell']) (by simp [Value.cells]) ?_)
      refine L.st rfl rfl rfl rfl (by first | decide | simp | (simp; omega)) ?_
      refine L.nil ?_
      refine At.then ?_
      refine At.ret ?_
      refine At.leave (.inl rfl) rfl rfl hE (catch_idle b2 b3 _ _ _) (Ent.sel2 (.tail (.head)) .head) ?_
      rintro m rfl
      refine At.app2 ?_
      exact At.res2 [_, _] rfl (Res.cellN (vs := [.int .i64 n, .slice A' ns.length c']) rfl rfl rfl rfl (rowAll rfl)) (Res.cell1 rfl rfl (cellIs rfl)) (.inl ⟨⟨n, ns⟩, A', c', dec_good hflow (by omega) hc0, hsm, rfl, rfl⟩) (Ent.drop.trans (Ent.drop.trans (Ent.cons Ent.drop)))
    ·
      refine At.region ?_
      refine L.val rfl (ev_loadN (vs := [.int .i64 n, .slice A' ns.length c']) rfl rfl rfl rfl) (rowAll rfl) ?_
      refine L.op rfl (o_give rfl rfl rfl hE (check_gives ⟨n, ns⟩ A' c') (nodesOwn.at (.tail (.head)) fun nd hnd => (hsm nd hnd).i64) ?_)
      rintro v m hv
      obtain ⟨b, rfl, rfl⟩ := hv.bad hc0
      refine At.app1 ?_
      refine L.as rfl rfl ?_
      refine L.nil ?_
      refine At.then ?_
      refine At.seq ?_
      refine At.region ?_
      refine L.mv rfl rfl ?_
      refine L.pure rfl (ev_neqNil rfl rfl) ?_
      refine L.nil ?_
      refine At.then ?_
      refine At.condT rfl ?_
      refine At.seq ?_
      refine At.region ?_
      refine L.pure rfl (ev_build (ps := []) (vs := []) (cs := #[.int .i64 0, .slice none 0 0]) rfl rfl rfl rfl rfl) ?_
      refine L.mv rfl rfl ?_
      refine L.op rfl (o_storeN rfl (m := 2) (vs := [.int .i64 0, .slice none 0 0]) rfl rfl rfl rfl (by simp [Value.oneCell']) (by simp [Value.cells]) ?_)
      refine L.st rfl rfl rfl rfl (by first | decide | simp | (simp; omega)) ?_
      refine L.nil ?_
      refine At.then ?_
      refine At.ret ?_
      refine At.thenRet ?_
      refine At.leave (.inl rfl) rfl rfl hE (catch_idle b2 b3 _ _ _) (Ent.sel2 (.tail (.head)) .head) ?_
      rintro m rfl
      refine At.app2 ?_
      exact At.res2 [_, _] rfl (Res.cellN (vs := [.int .i64 0, .slice none 0 0]) rfl rfl rfl rfl (rowAll rfl)) (Res.cell1 rfl rfl (cellIs rfl)) (.inr ⟨_, _, b, dec_chk hflow (by omega) hc0, hc0, rfl, rfl⟩) (Ent.drop.trans (Ent.drop.trans (Ent.cons (Ent.drop.trans Ent.drop))))
end Go.Proofs.YtmeegfamopaljaaGreatDoor

namespace Go.Proofs.YtmeegfamopaljaaGreatDoor
open Go Go.RowKit Go.SL
theorem fill_two (u w : Value) (hu : u.oneCell' = true) (hw : w.oneCell' = true) (z : Value) (hz : z.cells.size = 1) : Instr.fill (fun i => some (i * 1, 1)) (Array.map (fun x => z.cells[x % z.cells.size]!) (Array.range (2 * 1))) ((List.map (fun x => x.fst) [((0 : Nat), Operand.tmp 30), (1, .tmp 31)]).zip [u, w]) = some #[u, w] := by
  have e1 : Array.range (2 * 1) = #[0, 1] := rfl
  rw [e1]
  simp [Instr.fill, cells_one hu, cells_one hw, hz]
def SubmitPost (f e j d : Nat) (p : EA) (S : FK.En) (J : FK.Jn) (σ : FK.Dsk) (bs : List UInt8) (fl : FK.Flow) (pb : HP) (v : Value) (m : List HP) : Prop :=
  ((J.add σ (txt (FK.frame (1 :: bs)))).2.2 = 0 ∧ ∃ S0 p', FK.Cut S S0 ∧ v = .tuple #[natV (S.lastRun + 1), .nilIface] ∧ m = keepL f e j d p' (S0.submit fl) (J.add σ (txt (FK.frame (1 :: bs)))).1 (J.add σ (txt (FK.frame (1 :: bs)))).2.1 ++ [pb]) ∨
  ((J.add σ (txt (FK.frame (1 :: bs)))).2.2 ≠ 0 ∧ v = .tuple #[natV 0, errV (J.add σ (txt (FK.frame (1 :: bs)))).2.2] ∧ m = keepL f e j d p S (J.add σ (txt (FK.frame (1 :: bs)))).1 (J.add σ (txt (FK.frame (1 :: bs)))).2.1 ++ [pb])
set_option maxRecDepth 10000 in
set_option maxHeartbeats 2000000 in
theorem fsubmit_does {f e j d : Nat} {p : EA} {S : FK.En} {J : FK.Jn} {σ : FK.Dsk} {pb : HP} {A : Option Addr} {c : Nat} {bs : List UInt8} {fl : FK.Flow} (h : FK.Ok S) (hJ : J.n < 100) (hr : Roomy σ) (hp : Reads pb A bs) (hA : A = none → bs = []) (hl : bs.length ≤ 1000000000) (hd : FK.dec bs = .ok fl) (hfit : FK.Fit fl) (hroom : S.roomy = true) (hsets : S.sets < 9223372036854775807) (hlr : S.lastRun < 9223372036854775807) : Does Tryz.prog Good 50 [ptr f, .slice A bs.length c].toArray (keepL f e j d p S J σ ++ [pb]) (SubmitPost f e j d p S J σ bs fl pb) := by
  have h12 := hfit.head.2.2
  have h1 := hfit.head.2.1
  obtain ⟨hd1, hd2⟩ := hfit.head.1
  refine Does.body Tryz.func50 rfl rfl fun E fr hE => ?_
  refine At.app5 ?_
  refine At.seq ?_
  refine At.region ?_
  refine L.as rfl rfl ?_
  refine L.as rfl rfl ?_
  refine L.nil ?_
  refine At.then ?_
  refine At.seq ?_
  refine At.region ?_
  refine L.mv rfl rfl ?_
  refine L.op rfl (o_call rfl rfl rfl hE (read_does hp (by omega)) (Ent.sel (.tail (.tail (.tail (.tail .head))))) ?_)
  rintro v m hv
  obtain ⟨A', c', hsm, rfl, rfl⟩ : ∃ A' c', (∀ nd ∈ fl.nodes, Small nd) ∧ v = .tuple #[.agg #[.int .i64 fl.deadline, .slice A' fl.nodes.length c'], .nilIface] ∧ m = [nodesOwn (.slice A' fl.nodes.length c') fl.nodes, pb] := by
    rcases hv with ⟨f', A', c', hd', hsm, hv, hm⟩ | ⟨e', a', b', hd', _⟩
    · rw [hd] at hd'
      injection hd' with hd'
      subst hd'
      exact ⟨A', c', hsm, hv, hm⟩
    · rw [hd] at hd'
      cases hd'
  refine At.app2 ?_
  refine L.mv rfl rfl ?_
  refine L.ex rfl rfl rfl ?_
  refine L.ex rfl rfl rfl ?_
  refine L.op rfl (o_alloc (z := .agg #[.int .i64 0, .slice none 0 0]) rfl rfl fun b6 => ?_)
  refine L.op rfl (o_storeN rfl (m := 2) (vs := [.int .i64 fl.deadline, .slice A' fl.nodes.length c']) rfl rfl rfl rfl (by simp [Value.oneCell']) (by simp [Value.cells]) ?_)
  refine At.blkAs b6 #[.int .i64 fl.deadline, .slice A' fl.nodes.length c'] rfl ?_
  refine L.as rfl rfl ?_
  refine L.nil ?_
  refine At.then ?_
  refine At.seq ?_
  refine At.block ?_
  refine At.seq ?_
  refine At.region ?_
  refine L.mv rfl rfl ?_
  refine L.pure rfl (ev_neqNil0 rfl rfl) ?_
  refine L.as rfl rfl ?_
  refine L.nil ?_
  refine At.then ?_
  refine At.condF rfl ?_
  refine At.seq ?_
  refine At.region ?_
  refine L.mv rfl rfl ?_
  refine L.nc rfl rfl ?_
  refine L.fa 0 rfl rfl rfl ?_
  refine L.ld rfl rfl rfl rfl ?_
  refine L.op rfl (o_call rfl rfl rfl hE room_does (Ent.sel HasEng.sel) ?_)
  rintro v m ⟨rfl, rfl⟩
  refine At.app1 ?_
  rw [show (S.runs.any (fun r => decide (0 < r.2.ended)) || decide (S.runs.length < 6)) = true from hroom]
  refine L.pure rfl (ev_not rfl rfl) ?_
  refine L.as rfl rfl ?_
  refine L.nil ?_
  refine At.then ?_
  refine At.condF rfl ?_
  refine At.skip ?_
  refine At.inBlock (At.then ?_)
  refine At.seq ?_
  refine At.seq ?_
  refine At.ent (l' := engX e p S :: blk b6 29 #[.int .i64 fl.deadline, .slice A' fl.nodes.length c'] :: nodesOwn (.slice A' fl.nodes.length c') fl.nodes :: pb :: fkB f e j :: jrnlAt j d J :: diskAt d σ :: fr) (Ent.refl _) ?_
  refine Dr.start rfl ?_
  refine Dr.p 0 rfl rfl (by kernel_rfl) (ev_move rfl) ?_
  refine Dr.p 1 rfl rfl (by kernel_rfl) (ev_nil rfl) ?_
  refine Dr.p 2 rfl rfl (by kernel_rfl) (ev_field (off := 1) rfl rfl) ?_
  refine Dr.ld 3 rfl rfl (by kernel_rfl) (ev_load1 rfl rfl) (cellIs rfl) ?_
  refine Dr.p 5 rfl rfl (by kernel_rfl) (ev_move rfl) ?_
  refine Dr.run 4 rfl rfl (by kernel_rfl) (o_slice1 rfl rfl rfl rfl rfl rfl fun b30 => ?_)
  refine Dr.kept [true] (by kernel_rfl) (Kept.cons (cellIs rfl) Kept.nil) ?_
  refine Dr.run 6 rfl rfl (by kernel_rfl) (o_slices (m := 2) (z := .slice none 0 0) (size := 1) (ps := [(0, .tmp 30), (1, .tmp 31)]) (vs := [.slice (some ⟨b30, 0, none⟩) 1 1, .slice A bs.length c]) (cs := #[.slice (some ⟨b30, 0, none⟩) 1 1, .slice A bs.length c]) rfl rfl rfl rfl (by omega) (by omega) rfl (fill_two _ _ rfl rfl _ rfl) fun b32 => ?_)
  refine Dr.kept [true] (by kernel_rfl) (Kept.cons (cellIs rfl) Kept.nil) ?_
  refine Dr.run 7 rfl rfl (by kernel_rfl) (o_call rfl rfl rfl hE (concat_does (A1 := some ⟨b30, 0, none⟩) (bs1 := [1]) (p1 := bytesAt (.slice (some ⟨b30, 0, none⟩) 1 1) [1]) 1 c (Reads.row (c := 1) fun _ => ⟨b30, rfl⟩) (fun h => by cases h) hp hA (by simp; omega) (by simp; omega)) ((Ent.cons ((ent_bytes (b := b30) (bs := [1]) (by unfold maxLen; simp)).trans (Ent.cons (Ent.sel (.tail (.tail (.tail .head)))))))) ?_)
  rintro v m rfl
  refine At.app3 ?_
  refine At.formRow .head ?_
  rintro A33 c33 rfl f1 f2 - - -
  obtain ⟨hreads, hnil⟩ := form_reads f1 f2
  refine Dr.kept [true] (by kernel_rfl) (Kept.cons (cellIs rfl) Kept.nil) ?_
  refine Dr.run 8 rfl rfl (by kernel_rfl) (o_call rfl rfl rfl hE (add_does c33 hJ hreads hnil (by simp; omega) hr) ((Ent.sel3 (.tail (.tail (.tail (.tail (.tail (.tail (.tail .head))))))) (.tail (.tail (.tail (.tail (.tail (.tail (.tail .head))))))) .head)) ?_)
  rintro v m ⟨hv, rfl⟩
  refine At.app3 ?_
  rw [show ([1] ++ bs : List UInt8) = 1 :: bs from rfl] at hv ⊢
  generalize hω : J.add σ (txt (FK.frame (1 :: bs))) = ω at hv ⊢
  refine Dr.kept [false] (by kernel_rfl) Kept.nil ?_
  refine Dr.p 9 rfl rfl (by kernel_rfl) (ev_assign rfl) ?_
  refine Dr.done (by kernel_rfl) ?_
  refine At.then ?_
  refine At.seq ?_
  by_cases HE : ω.2.2 = 0
  ·
    replace hv := hv.trans (if_pos HE)
    subst hv
    refine At.region ?_
    refine L.mv rfl rfl ?_
    refine L.pure rfl (ev_neqNil0 rfl rfl) ?_
    refine L.nil ?_
    refine At.then ?_
    refine At.condF rfl ?_
    refine At.skip ?_
    refine At.then ?_
    refine At.seq ?_
    refine Dr.start rfl ?_
    refine Dr.p 0 rfl rfl (by kernel_rfl) (ev_move rfl) ?_
    refine Dr.p 1 rfl rfl (by kernel_rfl) (ev_nil rfl) ?_
    refine Dr.p 2 rfl rfl (by kernel_rfl) (ev_field (off := 0) rfl rfl) ?_
    refine Dr.ld 3 rfl rfl (by kernel_rfl) (ev_load1 rfl rfl) (cellIs rfl) ?_
    refine Dr.ld 4 rfl rfl (by kernel_rfl) (ev_loadN (vs := [.int .i64 fl.deadline, .slice A' fl.nodes.length c']) rfl rfl rfl rfl) (rowAll rfl) ?_
    refine Dr.run 5 rfl rfl (by kernel_rfl) (o_call rfl rfl rfl hE (submit_does (nv := .slice A' fl.nodes.length c') h1 (by omega) hfit.after (by omega) (by omega) h.now (by have := h.queueLe; omega) (by have := h.tmsLe; omega) hsets (fun r hr => (h.low r.1 (List.mem_map_of_mem (f := (·.1)) hr)).2) hlr) (Ent.sel2 HasEng.sel (.tail (.tail (.tail (.tail (.tail (.tail .head))))))) ?_)
    rintro v m ⟨S0, p', hcut, rfl, rfl⟩
    refine At.app1 ?_
    refine Dr.kept [false, false] (by kernel_rfl) Kept.nil ?_
    refine Dr.p 6 rfl rfl (by kernel_rfl) (ev_assign rfl) ?_
    refine Dr.p 7 rfl rfl (by kernel_rfl) (ev_assign rfl) ?_
    refine Dr.done (by kernel_rfl) ?_
    refine At.then ?_
    refine At.ret ?_
    refine At.ret2 (keepL f e j d p' (S0.submit fl) ω.1 ω.2.1 ++ [pb]) rfl rfl rfl (by unfold SubmitPost; rw [hω]; exact .inl ⟨HE, S0, p', hcut, rfl, rfl⟩) ?_
    show Ent _ (fkB f e j :: engX e p' _ :: jrnlAt j d ω.1 :: diskAt d ω.2.1 :: pb :: fr)
    exact Ent.auto
  ·
    replace hv := hv.trans (if_neg HE)
    subst hv
    refine At.region ?_
    refine L.mv rfl rfl ?_
    refine L.pure rfl (ev_neqNil rfl rfl) ?_
    refine L.nil ?_
    refine At.then ?_
    refine At.condT rfl ?_
    refine At.seq ?_
    refine At.region ?_
    refine L.mv rfl rfl ?_
    refine L.as rfl rfl ?_
    refine L.as rfl rfl ?_
    refine L.nil ?_
    refine At.then ?_
    refine At.ret ?_
    refine At.thenRet ?_
    refine At.ret2 (keepL f e j d p S ω.1 ω.2.1 ++ [pb]) rfl rfl rfl (by unfold SubmitPost; rw [hω]; exact .inr ⟨HE, by unfold errV; rw [if_neg HE]; rfl, rfl⟩) ?_
    show Ent _ (fkB f e j :: engX e p _ :: jrnlAt j d ω.1 :: diskAt d ω.2.1 :: pb :: fr)
    exact Ent.auto
end Go.Proofs.YtmeegfamopaljaaGreatDoor

namespace Go.Proofs.YtmeegfamopaljaaGreatDoor
open Go Go.RowKit Go.SL
set_option maxRecDepth 10000 in
set_option maxHeartbeats 2000000 in
theorem hsubmit_does {h f e j d : Nat} {p : EA} {S : FK.En} {J : FK.Jn} {σ : FK.Dsk} {pb : HP} {A : Option Addr} {c : Nat} {bs : List UInt8} {fl : FK.Flow} (hS : FK.Ok S) (hJ : J.n < 100) (hb : J.broken = 0) (hr : Roomy σ) (hQ : FK.Quiet σ) (hp : Reads pb A bs) (hA : A = none → bs = []) (hl : bs.length ≤ 1000000000) (hd : FK.dec bs = .ok fl) (hfit : FK.Fit fl) (hroom : S.roomy = true) (hsets : S.sets < 9223372036854775807) (hlr : S.lastRun < 9223372036854775807) :
    Does Tryz.prog Good 21 [ptr h, .slice A bs.length c, wellV].toArray (hostL h f e j d p S J σ ++ [pb]) fun v m => v = .tuple #[natV (S.lastRun + 1), .int .i64 0, .int .i64 (-1)] ∧ ∃ S0 p', FK.Cut S S0 ∧ m = hostL h f e j d p' (S0.submit fl) J (σ.logs J.n (txt (FK.frame (1 :: bs)))) ++ [pb] := by
  have hadd := hQ.add hb (txt (FK.frame (1 :: bs)))
  refine Does.body Tryz.func21 rfl rfl fun E fr hE => ?_
  refine At.app6 ?_
  refine At.seq ?_
  refine At.region ?_
  refine L.op rfl (o_box rfl rfl fun b5 => ?_)
  refine L.as rfl rfl ?_
  refine L.as rfl rfl ?_
  refine L.as rfl rfl ?_
  refine L.nil ?_
  refine At.then ?_
  refine At.seq ?_
  refine At.seq ?_
  refine At.region ?_
  refine L.mv rfl rfl ?_
  refine L.nc rfl rfl ?_
  refine L.fa 1 rfl rfl rfl ?_
  refine L.ld rfl rfl rfl rfl ?_
  refine L.pure rfl (ev_eqlNilP rfl rfl rfl) ?_
  refine L.nil ?_
  refine At.then ?_
  refine At.condF rfl ?_
  refine At.skip ?_
  refine At.then ?_
  refine At.seq ?_
  refine At.region ?_
  refine L.mv rfl rfl ?_
  refine L.val rfl (ev_loadN (vs := fallL (-1) (-1) 0 0) rfl rfl rfl rfl) (rowAll rfl) ?_
  refine L.op rfl (o_call rfl rfl rfl hE (hbefore_does (-1) (-1) 0 0) (Ent.sel2 (.tail .head) (.tail (.tail (.tail (.tail .head))))) ?_)
  rintro v m ⟨rfl, rfl⟩
  refine At.app2 ?_
  rw [quietE hQ]
  refine At.ent (l' := pb :: fkB f e j :: engX e p S :: jrnlAt j d J :: diskAt d σ :: hostP h d f :: blk b5 41 (fallL (-1) (-1) 0 0).toArray :: fr) (by show Ent (_ :: _ :: blk b5 41 (fallL (-1) (-1) 0 0).toArray :: _) _; exact Ent.auto) ?_
  refine L.nil ?_
  refine At.then ?_
  refine At.seq ?_
  refine At.region ?_
  refine L.mv rfl rfl ?_
  refine At.ent (Ent.row0 (e := 5) (size := 1)) ?_
  refine L.op rfl (o_append (k := 0) (xs := []) rfl rfl infoByte rfl (by omega) rfl rfl .head (news := bytesV bs) (by simp [bytesV]) (fun h => by rw [hA h]; rfl) (Reads.src hp (.tail .head)) (by simp [bytesV, Value.oneCell']) (by unfold maxLen; omega) (by omega) fun v24 hv24 => ?_)
  simp only [Nat.zero_add, List.nil_append]
  refine At.formRow .head ?_
  rintro A9 c9 rfl f1 f2 - - -
  obtain ⟨hreads, hnil⟩ := form_reads f1 f2
  refine L.as rfl rfl ?_
  refine L.nil ?_
  refine At.then ?_
  refine At.seq ?_
  refine At.ent (l' := fkB f e j :: engX e p S :: jrnlAt j d J :: diskAt d σ :: bytesAt (.slice A9 bs.length c9) bs :: pb :: hostP h d f :: blk b5 41 (fallL (-1) (-1) 0 0).toArray :: fr) Ent.auto ?_
  refine At.region ?_
  refine L.mv rfl rfl ?_
  refine L.nc rfl rfl ?_
  refine L.fa 1 rfl rfl rfl ?_
  refine L.ld rfl rfl rfl rfl ?_
  refine L.mv rfl rfl ?_
  refine L.op rfl (o_call rfl rfl rfl hE (fsubmit_does (pb := bytesAt (.slice A9 bs.length c9) bs) hS hJ hr hreads hnil hl hd hfit hroom hsets hlr) (Ent.refl _) ?_)
  rintro v m hv
  obtain ⟨S0, p', hcut, rfl, rfl⟩ : ∃ S0 p', FK.Cut S S0 ∧ v = .tuple #[natV (S.lastRun + 1), .nilIface] ∧ m = keepL f e j d p' (S0.submit fl) J (σ.logs J.n (txt (FK.frame (1 :: bs)))).spent ++ [bytesAt (.slice A9 bs.length c9) bs] := by
    unfold SubmitPost at hv
    rw [hadd] at hv
    rcases hv with ⟨_, S0, p', h1, h2, h3⟩ | ⟨h1, _⟩
    · exact ⟨S0, p', h1, h2, h3⟩
    · exact absurd rfl h1
  refine At.app5 ?_
  refine L.mv rfl rfl ?_
  refine L.ex rfl rfl rfl ?_
  refine L.ex rfl rfl rfl ?_
  refine L.as rfl rfl ?_
  refine L.as rfl rfl ?_
  refine L.nil ?_
  refine At.then ?_
  refine At.seq ?_
  refine At.seq ?_
  refine At.region ?_
  refine L.mv rfl rfl ?_
  refine L.pure rfl (ev_lenS rfl rfl) ?_
  refine L.mv rfl rfl ?_
  refine L.nil ?_
  refine At.then ?_
  refine At.block ?_
  refine At.loop (X := Nat × List Value) (fun x => [(36, .int .i64 x.1), (35, .int .i64 bs.length), (9, .slice A9 bs.length c9), (10, natV (S.lastRun + 1)), (11, .nilIface), (5, ptr b5), (0, ptr h)]) (fun x => row 5 1 (.slice A9 bs.length c9) bs.length x.2 :: fkB f e j :: engX e p' (S0.submit fl) :: jrnlAt j d J :: diskAt d (σ.logs J.n (txt (FK.frame (1 :: bs)))).spent :: pb :: hostP h d f :: blk b5 41 (fallL (-1) (-1) 0 0).toArray :: fr) (fun x => x.1 ≤ bs.length) (fun x => bs.length - x.1) (0, bytesV bs) (Nat.zero_le _) ⟨rfl, rfl, rfl, rfl, rfl, rfl, rfl, trivial⟩ (Ent.sel (.tail (.tail (.tail (.tail .head))))) ?_
  rintro ⟨k, ys⟩ hk
  simp only at hk ⊢
  refine At.seq ?_
  refine At.region ?_
  refine L.pure rfl (ev_lss rfl rfl rfl) ?_
  refine L.nil ?_
  refine At.then ?_
  refine At.seq ?_
  refine At.condD rfl (fun c37 => ?_) (fun c37 => ?_)
  ·
    have hlt : k < bs.length := by omega
    obtain ⟨g, rfl⟩ : ∃ g, A9 = some ⟨g, 0, none⟩ := by
      cases A9 with
      | none => have := (f1 rfl).1; omega
      | some ad => obtain ⟨g, rfl⟩ := f2 ad rfl; exact ⟨g, rfl⟩
    refine At.skip ?_
    refine At.then ?_
    refine At.seq ?_
    refine At.block ?_
    refine At.seq ?_
    refine At.region ?_
    refine L.mv rfl rfl ?_
    refine L.as rfl rfl ?_
    refine L.nil ?_
    refine At.then ?_
    refine At.region ?_
    refine L.mv rfl rfl ?_
    refine L.mv rfl rfl ?_
    refine L.pure rfl (ev_ixN (z := 1) rfl rfl rfl rfl hlt) ?_
    refine L.op rfl (o_storeRow .head rfl rfl rfl rfl (by omega) ?_)
    refine L.nil ?_
    refine At.inBlock (At.then ?_)
    refine At.region ?_
    refine L.pure rfl (ev_add (r := ((k + 1 : Nat) : Int)) rfl rfl (by rw [w64 (by omega)]; omega)) ?_
    refine L.mv rfl rfl ?_
    refine L.nil ?_
    exact At.round (k + 1, _) (by simp only; omega) (by simp only; omega) ⟨rfl, rfl, rfl, rfl, rfl, rfl, rfl, trivial⟩ (Ent.refl _)
  ·
    refine At.exit ?_
    refine At.thenExit (At.roundExit (At.inBlockHit (At.then ?_)))
    refine At.seq ?_
    refine At.ent (l' := hostP h d f :: diskAt d (σ.logs J.n (txt (FK.frame (1 :: bs)))).spent :: fkB f e j :: engX e p' (S0.submit fl) :: jrnlAt j d J :: pb :: blk b5 41 (fallL (-1) (-1) 0 0).toArray :: fr) Ent.auto ?_
    refine At.region ?_
    refine L.mv rfl rfl ?_
    refine L.val rfl (ev_loadN (vs := fallL (-1) (-1) 0 0) rfl rfl rfl rfl) (rowAll rfl) ?_
    refine L.op rfl (o_call rfl rfl rfl hE (hafter_does (σ := (σ.logs J.n (txt (FK.frame (1 :: bs)))).spent) (-1) (-1) 0 0 hQ.down) (Ent.refl _) ?_)
    rintro v m ⟨rfl, rfl⟩
    refine At.app2 ?_
    rw [rested3 (hQ.logs _ _)]
    refine L.nil ?_
    refine At.then ?_
    refine At.seq ?_
    refine At.region ?_
    refine L.mv rfl rfl ?_
    refine L.op rfl (o_call rfl rfl rfl hE told_nil (Ent.refl _) ?_)
    rintro v m ⟨rfl, rfl⟩
    refine At.app0 ?_
    refine L.mv rfl rfl ?_
    refine L.ex rfl rfl rfl ?_
    refine L.ex rfl rfl rfl ?_
    refine L.as rfl rfl ?_
    refine L.as rfl rfl ?_
    refine L.nil ?_
    refine At.then ?_
    refine At.seq ?_
    refine At.region ?_
    refine L.mv rfl rfl ?_
    refine L.mv rfl rfl ?_
    refine L.mv rfl rfl ?_
    refine L.as rfl rfl ?_
    refine L.as rfl rfl ?_
    refine L.as rfl rfl ?_
    refine L.nil ?_
    refine At.then ?_
    refine At.ret ?_
    refine At.ret3 (hostL h f e j d p' (S0.submit fl) J (σ.logs J.n (txt (FK.frame (1 :: bs)))) ++ [pb]) rfl rfl rfl rfl ⟨rfl, S0, p', hcut, rfl⟩ ?_
    show Ent _ (hostP h d f :: fkB f e j :: engX e p' (S0.submit fl) :: jrnlAt j d J :: diskAt d (σ.logs J.n (txt (FK.frame (1 :: bs)))) :: pb :: fr)
    exact Ent.auto
end Go.Proofs.YtmeegfamopaljaaGreatDoor

namespace Go.SL
open Go Go.RowKit
section
variable {P : Program} {G : Env → Prop}
theorem DoesD.plain {f : FuncId} {fn : Func} {c : Code} {args : List Value} {u : FrameMode} {pre : List HP} {R : List HP → Prop} (hf : P.funcs[f]? = some fn) (hb : fn.body = some c) (hn : Nat.ble args.length fn.ntmps = true)
    (h : ∀ E fr, G E → At E fn.ntmps [] (argSlots 0 args) (pre ++ fr) (c.wp P (Ends P fn E fr fun v m => v = .tuple #[] ∧ R m))) : DoesD P G f args.toArray u u pre R := by
  intro E w fr hE hw
  refine callsD_of_wpS hf hb fun c₀ cs hc => ?_
  have hfit : Fits fn.ntmps [] (argSlots 0 args) { tmps := args.toArray ++ Array.replicate (fn.ntmps - args.toArray.size) undef, defers := [] } := by
    refine ⟨?_, rfl, ?_⟩
    · have := Nat.le_of_ble_eq_true hn
      simp; omega
    · intro i v hi
      obtain ⟨_, h2⟩ := argSlots_get args 0 i v hi
      rw [Nat.sub_zero] at h2
      have hlt : i < args.length := (List.getElem?_eq_some_iff.1 h2).1
      simp [Array.getElem?_append, hlt, (List.getElem?_eq_some_iff.1 h2).2]
  have hk := h E fr hE _ w hfit hw
  refine wpS_of_wp (Code.wp_mono ?_ hk)
  intro e a w' hq
  cases e with
  | normal => exact let ⟨h1, v, h2, v', m, h3, ⟨h4, h5⟩, h6⟩ := hq; ⟨h1, u, by cases c₀; simp_all, v, h2, by rw [h3, h4], rfl, m, h5, h6⟩
  | ret => exact let ⟨h1, v, h2, v', m, h3, ⟨h4, h5⟩, h6⟩ := hq; ⟨h1, u, by cases c₀; simp_all, v, h2, by rw [h3, h4], rfl, m, h5, h6⟩
  | panic c => exact let ⟨_, v', m, h3, _⟩ := hq; by cases h3
  | exit _ => exact hq.elim
  | goto _ => exact hq.elim
  | outgrown => exact let ⟨v', m, h3, _⟩ := hq; by cases h3
end
end Go.SL

namespace Go.Proofs
open Go.Shelf
open Go.RowKit in
open Go.RowKit in
def Tryz.lays192_ren : Go.Shelf.Ren := ⟨fun | 192 => 333 | 190 => 336 | 125 => 247 | 258 => 337 | 128 => 274 | 129 => 227 | 302 => 338 | 303 => 339 | 304 => 340 | 305 => 341 | 306 => 342 | 307 => 343 | 308 => 344 | 309 => 345 | 310 => 346 | 333 => 347 | 329 => 294 | 330 => 295 | 334 => 348 | 335 => 349 | 336 => 350 | 344 => 351 | n => n, fun | 31 => 278 | 0 => 0 | 9 => 9 | 3 => 3 | 46 => 87 | 51 => 312 | 53 => 51 | 4 => 4 | 183 => 395 | 182 => 394 | 131 => 357 | 5 => 5 | 218 => 417 | 222 => 219 | 228 => 428 | 229 => 200 | n => n, fun | n => n⟩
theorem Tryz.lays192 : Go.Proofs.Lays.n192 Tryz.prog Tryz.lays192_ren := {
  mixed := by kernel_rfl
  f125 := Tryz.func247.trans (congrArg some (by kernel_rfl))
  f128 := Tryz.func274.trans (congrArg some (by kernel_rfl))
  f129 := Tryz.func227.trans (congrArg some (by kernel_rfl))
  f190 := Tryz.func336.trans (congrArg some (by kernel_rfl))
  f192 := Tryz.func333.trans (congrArg some (by kernel_rfl))
  f258 := Tryz.func337.trans (congrArg some (by kernel_rfl))
  f302 := Tryz.func338.trans (congrArg some (by kernel_rfl))
  f303 := Tryz.func339.trans (congrArg some (by kernel_rfl))
  f304 := Tryz.func340.trans (congrArg some (by kernel_rfl))
  f305 := Tryz.func341.trans (congrArg some (by kernel_rfl))
  f306 := Tryz.func342.trans (congrArg some (by kernel_rfl))
  f307 := Tryz.func343.trans (congrArg some (by kernel_rfl))
  f308 := Tryz.func344.trans (congrArg some (by kernel_rfl))
  f309 := Tryz.func345.trans (congrArg some (by kernel_rfl))
  f310 := Tryz.func346.trans (congrArg some (by kernel_rfl))
  f329 := Tryz.func294.trans (congrArg some (by kernel_rfl))
  f330 := Tryz.func295.trans (congrArg some (by kernel_rfl))
  f333 := Tryz.func347.trans (congrArg some (by kernel_rfl))
  f334 := Tryz.func348.trans (congrArg some (by kernel_rfl))
  f335 := Tryz.func349.trans (congrArg some (by kernel_rfl))
  f336 := Tryz.func350.trans (congrArg some (by kernel_rfl))
  f344 := Tryz.func351.trans (congrArg some (by kernel_rfl))
  t0 := Tryz.underlying0
  a0 := Tryz.isAgg0
  z0 := Tryz.sizeOf0
  v0 := Tryz.zeroValue0
  t3 := Tryz.underlying3
  a3 := Tryz.isAgg3
  z3 := Tryz.sizeOf3
  v3 := Tryz.zeroValue3
  t4 := Tryz.underlying4
  a4 := Tryz.isAgg4
  z4 := Tryz.sizeOf4
  v4 := Tryz.zeroValue4
  t5 := Tryz.underlying5
  a5 := Tryz.isAgg5
  z5 := Tryz.sizeOf5
  v5 := Tryz.zeroValue5
  t9 := Tryz.underlying9
  a9 := Tryz.isAgg9
  z9 := Tryz.sizeOf9
  v9 := Tryz.zeroValue9
  t31 := Tryz.underlying278
  a31 := Tryz.isAgg278
  z31 := Tryz.sizeOf278
  v31 := Tryz.zeroValue278
  t46 := Tryz.underlying87
  a46 := Tryz.isAgg87
  z46 := Tryz.sizeOf87
  v46 := Tryz.zeroValue87
  t51 := Tryz.underlying312
  a51 := Tryz.isAgg312
  z51 := Tryz.sizeOf312
  v51 := Tryz.zeroValue312
  t53 := Tryz.underlying51
  a53 := Tryz.isAgg51
  z53 := Tryz.sizeOf51
  v53 := Tryz.zeroValue51
  t131 := Tryz.underlying357
  a131 := Tryz.isAgg357
  z131 := Tryz.sizeOf357
  v131 := Tryz.zeroValue357
  t182 := Tryz.underlying394
  a182 := Tryz.isAgg394
  z182 := Tryz.sizeOf394
  v182 := Tryz.zeroValue394
  t183 := Tryz.underlying395
  a183 := Tryz.isAgg395
  z183 := Tryz.sizeOf395
  v183 := Tryz.zeroValue395
  t218 := Tryz.underlying417
  a218 := Tryz.isAgg417
  z218 := Tryz.sizeOf417
  v218 := Tryz.zeroValue417
  t222 := Tryz.underlying219
  a222 := Tryz.isAgg219
  z222 := Tryz.sizeOf219
  v222 := Tryz.zeroValue219
  t228 := Tryz.underlying428
  a228 := Tryz.isAgg428
  z228 := Tryz.sizeOf428
  v228 := Tryz.zeroValue428
  t229 := Tryz.underlying200
  a229 := Tryz.isAgg200
  z229 := Tryz.sizeOf200
  v229 := Tryz.zeroValue200 }
open Go.RowKit Go.Lib in
open Go.RowKit Go.Lib in
open Go.RowKit Go.Lib in
open Go.RowKit Go.Sort in
open Go.RowKit Go.Sort in
theorem Tryz.sort_Strings_none (p : Option Addr) (cap : Nat) (w : World) :
    Calls Tryz.prog 333 #[.slice p 0 cap] w fun e w' => e = .returned (.tuple #[]) ∧ w' = w := Any.sort_Strings_none Tryz.lays192 p cap w
end Go.Proofs

namespace Go.Proofs.YtmeegfamopaljaaGreatDoor
open Go Go.RowKit Go.SL
variable {G : Env → Prop}
set_option maxRecDepth 10000 in
theorem readNone_does {d : Nat} {σ : FK.Dsk} {name : ByteArray} (hd : σ.down = false) (hn : FK.kget σ.now name = none) : Does Tryz.prog G 328 [ptr d, strV name].toArray [diskAt d σ] fun v m => v = .tuple #[.slice none 0 0, errV 9] ∧ m = [diskAt d σ] := by
  obtain ⟨dur, now, pend, left, full, down⟩ := σ
  simp only at hd hn
  subst hd
  refine Does.body Tryz.func328 rfl rfl fun E fr hE => ?_
  refine At.app1 ?_
  refine At.ex .head fun q => At.openAll ?_
  refine At.ent (l' := diskR d q ⟨dur, now, pend, left, full, false⟩ fr) (Ent.refl _) ?_
  refine At.ex (.tail (.tail .head)) fun M => At.openAll ?_
  refine At.ent (l' := HP.pure (Names q.P M now) :: vmap strV q.mn (ptrM M) :: blk d 131 (dskC q ⟨dur, now, pend, left, full, false⟩) :: filesAt q.md q.P dur :: pool q.P :: row 211 3 q.pv pend.length (opsV pend) :: fr) (Ent.refl _) ?_
  refine At.pure .head fun hN => ?_
  have hM : FK.kget M name = none := by
    rcases hN.get name with h | ⟨b, s, _, h, _⟩
    · exact h.1
    · rw [h] at hn; cases hn
  refine At.seq ?_
  refine At.region ?_
  refine L.as rfl rfl ?_
  refine L.as rfl rfl ?_
  refine L.nil ?_
  refine At.then ?_
  refine At.seq ?_
  refine At.seq ?_
  refine At.region ?_
  refine L.mv rfl rfl ?_
  refine L.nc rfl rfl ?_
  refine L.fa 5 rfl rfl rfl ?_
  refine L.ld rfl rfl rfl rfl ?_
  refine L.nil ?_
  refine At.then ?_
  refine At.condF rfl ?_
  refine At.skip ?_
  refine At.then ?_
  refine At.seq ?_
  refine At.region ?_
  refine L.mv rfl rfl ?_
  refine L.nc rfl rfl ?_
  refine L.fa 1 rfl rfl rfl ?_
  refine L.ld rfl rfl rfl rfl ?_
  refine L.mv rfl rfl ?_
  refine L.val rfl (ev_vlookN (m := ptrM M) (a := name) rfl strKey rfl rfl rfl (by rw [ptrM_get, hM]; rfl)) (vmapIs .head) ?_
  refine L.mv rfl rfl ?_
  refine L.ex rfl rfl rfl ?_
  refine L.ex rfl rfl rfl ?_
  refine L.as rfl rfl ?_
  refine L.as rfl rfl ?_
  refine L.nil ?_
  refine At.then ?_
  refine At.seq ?_
  refine At.seq ?_
  refine At.region ?_
  refine L.mv rfl rfl ?_
  refine L.pure rfl (ev_not rfl rfl) ?_
  refine L.nil ?_
  refine At.then ?_
  refine At.condT rfl ?_
  refine At.seq ?_
  refine At.region ?_
  refine L.pure rfl (ev_iface rfl rfl rfl) ?_
  refine L.as rfl rfl ?_
  refine L.as rfl rfl ?_
  refine L.nil ?_
  refine At.then ?_
  refine At.ret ?_
  refine At.thenRet ?_
  refine At.ret2 [diskAt d ⟨dur, now, pend, left, full, false⟩] rfl rfl rfl ⟨rfl, rfl⟩ ?_
  refine Ent.trans ?_ (Ent.closeDisk q ⟨dur, now, pend, left, full, false⟩)
  refine Ent.trans (Ent.closeFiles hN) ?_
  show Ent _ (_ :: filesAt q.md q.P dur :: filesAt q.mn q.P now :: pool q.P :: _ :: fr)
  exact Ent.auto
set_option maxRecDepth 10000 in
theorem namesNone_does {d : Nat} {σ : FK.Dsk} (hd : σ.down = false) (hn : σ.now = []) : Does Tryz.prog G 327 [ptr d].toArray [diskAt d σ] fun v m => v = .tuple #[.slice none 0 0, .nilIface] ∧ m = [diskAt d σ] := by
  obtain ⟨dur, now, pend, left, full, down⟩ := σ
  simp only at hd hn
  subst hd; subst hn
  refine Does.body Tryz.func327 rfl rfl fun E fr hE => ?_
  refine At.app1 ?_
  refine At.ex .head fun q => At.openAll ?_
  refine At.ent (l' := diskR d q ⟨dur, [], pend, left, full, false⟩ fr) (Ent.refl _) ?_
  refine At.ex (.tail (.tail .head)) fun M => At.openAll ?_
  refine At.ent (l' := HP.pure (Names q.P M []) :: vmap strV q.mn (ptrM M) :: blk d 131 (dskC q ⟨dur, [], pend, left, full, false⟩) :: filesAt q.md q.P dur :: pool q.P :: row 211 3 q.pv pend.length (opsV pend) :: fr) (Ent.refl _) ?_
  refine At.pure .head fun hN => ?_
  have hM : M = [] := by cases hN; rfl
  subst hM
  refine At.seq ?_
  refine At.region ?_
  refine L.as rfl rfl ?_
  refine L.as rfl rfl ?_
  refine L.nil ?_
  refine At.then ?_
  refine At.seq ?_
  refine At.seq ?_
  refine At.region ?_
  refine L.mv rfl rfl ?_
  refine L.nc rfl rfl ?_
  refine L.fa 5 rfl rfl rfl ?_
  refine L.ld rfl rfl rfl rfl ?_
  refine L.nil ?_
  refine At.then ?_
  refine At.condF rfl ?_
  refine At.skip ?_
  refine At.then ?_
  refine At.seq ?_
  refine At.region ?_
  refine L.as rfl rfl ?_
  refine L.nil ?_
  refine At.then ?_
  refine At.seq ?_
  refine At.seq ?_
  refine At.region ?_
  refine L.mv rfl rfl ?_
  refine L.nc rfl rfl ?_
  refine L.fa 1 rfl rfl rfl ?_
  refine L.ld rfl rfl rfl rfl ?_
  refine L.op rfl (o_range (b := q.mn) (m := ptrM []) rfl rfl rfl .head fun it => ?_)
  refine L.nil ?_
  refine At.then ?_
  refine At.block ?_
  refine At.loop (X := Nat) (fun _ => [(15, .pointer (some ⟨it, 0, none⟩)), (4, .slice none 0 0), (0, ptr d)]) (fun _ => ranging strV it q.mn (ptrM []) (ptrM []) none :: blk d 131 (dskC q ⟨dur, [], pend, left, full, false⟩) :: filesAt q.md q.P dur :: pool q.P :: row 211 3 q.pv pend.length (opsV pend) :: fr) (fun _ => True) (fun _ => 0) 0 trivial ⟨rfl, rfl, rfl, trivial⟩ (Ent.refl _) ?_
  intro k hk
  refine At.seq ?_
  refine At.region ?_
  refine L.op rfl (o_next rfl rfl .head (fun _ => ?_) (fun j q hj => by simp at hj))
  refine L.ex rfl rfl rfl ?_
  refine L.nil ?_
  refine At.then ?_
  refine At.seq ?_
  refine At.condF rfl ?_
  refine At.exit ?_
  refine At.thenExit (At.roundExit (At.inBlockHit (At.then ?_)))
  refine At.seq ?_
  refine At.region ?_
  refine L.mv rfl rfl ?_
  refine L.op rfl (o_give rfl rfl rfl hE (Gives.of_calls (φ := fun _ => True) fun _ w _ _ _ => (Tryz.sort_Strings_none none 0 w).mono fun _ _ ⟨h1, h2⟩ => ⟨h1, by rw [h2]; exact Below.refl _ _⟩) (fun _ _ => trivial) ?_)
  rintro v m ⟨rfl, rfl⟩
  refine At.app0 ?_
  refine L.nil ?_
  refine At.then ?_
  refine At.seq ?_
  refine At.region ?_
  refine L.mv rfl rfl ?_
  refine L.as rfl rfl ?_
  refine L.as rfl rfl ?_
  refine L.nil ?_
  refine At.then ?_
  refine At.ret ?_
  refine At.ret2 [diskAt d ⟨dur, [], pend, left, full, false⟩] rfl rfl rfl ⟨rfl, rfl⟩ ?_
  refine Ent.trans ?_ (Ent.closeDisk q ⟨dur, [], pend, left, full, false⟩)
  refine Ent.trans (Ent.ranged.trans (Ent.closeFiles hN)) ?_
  show Ent _ (_ :: filesAt q.md q.P dur :: filesAt q.mn q.P [] :: pool q.P :: _ :: fr)
  exact Ent.auto
end Go.Proofs.YtmeegfamopaljaaGreatDoor

namespace FK
def e0 : Dsk := ⟨[], [], [], -1, -1, false⟩
def e1 : Dsk := ⟨[], [], [], -2, -2, false⟩
def e2 : Dsk := ⟨[], [], [], -3, -3, false⟩
theorem e0_sync : e0.sync = (e1, 0) := by
  have h1 : Go.IntKind.i64.wrap (-2) = -2 := by decide
  simp [e0, e1, Dsk.sync, Dsk.writes, h1]
theorem e1_sync : e1.sync = (e2, 0) := by
  have h1 : Go.IntKind.i64.wrap (-3) = -3 := by decide
  simp [e1, e2, Dsk.sync, Dsk.writes, h1]
def J0 : Jn := ⟨0, false, 0⟩
theorem e0_quiet : Quiet e0 := ⟨rfl, rfl, rfl, rfl⟩
end FK
namespace Go.Proofs.YtmeegfamopaljaaGreatDoor
open Go Go.RowKit Go.SL
variable {G : Env → Prop}
abbrev dskI (d : Nat) : Value := .iface 115 (ptr d)
theorem sync01 {d : Nat} : Does Tryz.prog G 330 [ptr d].toArray [diskAt d FK.e0] fun v m => v = .nilIface ∧ m = [diskAt d FK.e1] := by
  have := sync_does (G := G) (d := d) (σ := FK.e0) (by decide) (by decide)
  rw [FK.e0_sync] at this
  exact this
theorem sync12 {d : Nat} : Does Tryz.prog G 330 [ptr d].toArray [diskAt d FK.e1] fun v m => v = .nilIface ∧ m = [diskAt d FK.e2] := by
  have := sync_does (G := G) (d := d) (σ := FK.e1) (by decide) (by decide)
  rw [FK.e1_sync] at this
  exact this
set_option maxRecDepth 10000 in
theorem openD_idle (b6 b7 : Nat) : DoesD Tryz.prog G 168 [ptr b7, ptr b6].toArray .returning .returning [blk b7 109 #[.nilIface]] fun m => m = [blk b7 109 #[.nilIface]] := by
  refine DoesD.plain Tryz.func168 rfl rfl fun E fr hE => ?_
  refine At.app1 ?_
  refine At.seq ?_
  refine At.region ?_
  refine L.ld rfl rfl rfl rfl ?_
  refine L.pure rfl (ev_neqNil0 rfl rfl) ?_
  refine L.nil ?_
  refine At.then ?_
  refine At.condF rfl ?_
  refine At.skip ?_
  exact At.end0 [_] rfl ⟨rfl, rfl⟩ (Ent.refl _)
set_option maxRecDepth 10000 in
set_option maxHeartbeats 2000000 in
theorem jopen0_does {d : Nat} (v1 v2 : Value) : Does Tryz.prog Good 107 [dskI d, v1, v2].toArray [diskAt d FK.e0] fun v m => ∃ j, v = .tuple #[ptr j, .nilIface] ∧ m = [jrnlAt j d FK.J0, diskAt d FK.e2] := by
  refine Does.bodyF Tryz.func107 rfl rfl fun E fr hE => ?_
  refine At.app1 ?_
  refine At.seq ?_
  refine At.region ?_
  refine L.op rfl (o_alloc (z := .pointer none) rfl rfl fun b6 => ?_)
  refine L.op rfl (o_alloc (z := .nilIface) rfl rfl fun b7 => ?_)
  refine L.nil ?_
  refine At.then ?_
  refine At.seq ?_
  refine At.region ?_
  refine L.mv rfl rfl ?_
  refine L.pure rfl (ev_build (ps := [(0, .tmp 25)]) (vs := [dskI d]) (cs := jrnlC d FK.J0) rfl rfl rfl rfl rfl) ?_
  refine L.op rfl (o_box rfl rfl fun b27 => ?_)
  refine At.blkAs b27 (jrnlC d FK.J0) rfl ?_
  refine L.st rfl rfl rfl rfl (by first | decide | simp | (simp; omega)) ?_
  refine At.blkAs b6 #[ptr b27] rfl ?_
  refine L.nil ?_
  refine At.then ?_
  refine At.seq ?_
  refine At.region ?_
  refine L.pure rfl (ev_func rfl rfl) ?_
  refine L.op rfl (o_defer rfl ?_)
  refine L.nil ?_
  refine At.then ?_
  refine At.seq ?_
  refine At.seq ?_
  refine At.region ?_
  refine L.mv rfl rfl ?_
  refine L.op rfl (o_invoke rfl rfl rfl (mSync ⟨d, 0, none⟩) rfl hE sync01 (Ent.sel (.tail (.tail (.tail .head)))) ?_)
  rintro v m ⟨rfl, rfl⟩
  refine At.app1 ?_
  refine L.st rfl rfl rfl rfl (by first | decide | simp | (simp; omega)) ?_
  refine At.blkAs b7 #[.nilIface] rfl ?_
  refine At.ent (l' := blk b7 109 #[.nilIface] :: blk b6 169 #[ptr b27] :: jrnlAt b27 d FK.J0 :: diskAt d FK.e1 :: fr) Ent.auto ?_
  refine L.nil ?_
  refine At.then ?_
  refine At.seq ?_
  refine At.region ?_
  refine L.ld rfl rfl rfl rfl ?_
  refine L.pure rfl (ev_neqNil0 rfl rfl) ?_
  refine L.nil ?_
  refine At.then ?_
  refine At.condF rfl ?_
  refine At.skip ?_
  refine At.then ?_
  refine At.seq ?_
  refine At.region ?_
  refine L.mv rfl rfl ?_
  refine L.op rfl (o_invoke rfl rfl rfl (mNames ⟨d, 0, none⟩) rfl hE (namesNone_does rfl rfl) (Ent.sel (.tail (.tail (.tail .head)))) ?_)
  rintro v m ⟨rfl, rfl⟩
  refine At.app1 ?_
  refine L.mv rfl rfl ?_
  refine L.ex rfl rfl rfl ?_
  refine L.ex rfl rfl rfl ?_
  refine L.as rfl rfl ?_
  refine L.st rfl rfl rfl rfl (by first | decide | simp | (simp; omega)) ?_
  refine At.blkAs b7 #[.nilIface] rfl ?_
  refine At.ent (l' := blk b7 109 #[.nilIface] :: blk b6 169 #[ptr b27] :: jrnlAt b27 d FK.J0 :: diskAt d FK.e1 :: fr) Ent.auto ?_
  refine L.nil ?_
  refine At.then ?_
  refine At.seq ?_
  refine At.seq ?_
  refine At.region ?_
  refine L.ld rfl rfl rfl rfl ?_
  refine L.pure rfl (ev_neqNil0 rfl rfl) ?_
  refine L.nil ?_
  refine At.then ?_
  refine At.condF rfl ?_
  refine At.skip ?_
  refine At.then ?_
  refine At.seq ?_
  refine At.region ?_
  refine L.as rfl rfl ?_
  refine L.nil ?_
  refine At.then ?_
  refine At.seq ?_
  refine At.seq ?_
  refine At.region ?_
  refine L.mv rfl rfl ?_
  refine L.pure rfl (ev_lenS rfl rfl) ?_
  refine L.mv rfl rfl ?_
  refine L.nil ?_
  refine At.then ?_
  refine At.block ?_
  refine At.loop (X := Nat) (fun _ => [(42, .int .i64 0), (41, .int .i64 0), (9, .slice none 0 0), (8, .slice none 0 0), (7, ptr b7), (6, ptr b6), (2, v2), (1, v1), (0, dskI d)]) (fun _ => blk b7 109 #[.nilIface] :: blk b6 169 #[ptr b27] :: jrnlAt b27 d FK.J0 :: diskAt d FK.e1 :: fr) (fun _ => True) (fun _ => 0) 0 trivial ⟨rfl, rfl, rfl, rfl, rfl, rfl, rfl, rfl, rfl, trivial⟩ (Ent.refl _) ?_
  intro k hk
  refine At.seq ?_
  refine At.region ?_
  refine L.pure rfl (ev_lss rfl rfl rfl) ?_
  refine L.nil ?_
  refine At.then ?_
  refine At.seq ?_
  refine At.condF rfl ?_
  refine At.exit ?_
  refine At.thenExit (At.roundExit (At.inBlockHit (At.then ?_)))
  refine At.seq ?_
  refine Dr.start rfl ?_
  refine Dr.p 0 rfl rfl (by kernel_rfl) (ev_move rfl) ?_
  refine Dr.ld 1 rfl rfl (by kernel_rfl) (ev_load1 rfl rfl) (cellIs rfl) ?_
  refine Dr.p 2 rfl rfl (by kernel_rfl) (ev_nil rfl) ?_
  refine Dr.p 3 rfl rfl (by kernel_rfl) (ev_field (off := 1) rfl rfl) ?_
  refine Dr.ld 4 rfl rfl (by kernel_rfl) (ev_load1 rfl rfl) (cellIs rfl) ?_
  refine Dr.p 6 rfl rfl (by kernel_rfl) (ev_nilI rfl) ?_
  refine Dr.p 7 rfl rfl (by kernel_rfl) (ev_move rfl) ?_
  refine Dr.run 5 rfl rfl (by kernel_rfl) (o_call rfl rfl rfl hE (name_does (kind := ⟨#[108, 111, 103]⟩) (n := 0) (by omega) (by decide)) (Ent.refl _) ?_)
  rintro v m ⟨rfl, rfl⟩
  refine At.app0 ?_
  refine Dr.kept [false, true] (by kernel_rfl) (Kept.cons (cellIs rfl) Kept.nil) ?_
  refine Dr.run 8 rfl rfl (by kernel_rfl) (o_invoke rfl rfl rfl (mRead ⟨d, 0, none⟩) rfl hE (readNone_does (name := FK.logName 0) rfl rfl) (Ent.sel (.tail (.tail (.tail .head)))) ?_)
  rintro v m ⟨rfl, rfl⟩
  refine At.app1 ?_
  refine Dr.kept [true] (by kernel_rfl) (Kept.cons (cellIs rfl) Kept.nil) ?_
  refine Dr.p 9 rfl rfl (by kernel_rfl) (ev_move rfl) ?_
  refine Dr.p 10 rfl rfl (by kernel_rfl) (ev_extract rfl rfl) ?_
  refine Dr.p 11 rfl rfl (by kernel_rfl) (ev_extract rfl rfl) ?_
  refine Dr.p 12 rfl rfl (by kernel_rfl) (ev_assign rfl) ?_
  refine Dr.run 13 rfl rfl (by kernel_rfl) (o_store1 rfl rfl rfl rfl rfl (by show 0 < 1; omega) ?_)
  refine At.blkAs b7 #[.iface 48 (.int .i64 9)] rfl ?_
  refine At.ent (l' := blk b7 109 #[.iface 48 (.int .i64 9)] :: blk b6 169 #[ptr b27] :: jrnlAt b27 d FK.J0 :: diskAt d FK.e1 :: fr) Ent.auto ?_
  refine Dr.kept [false] (by kernel_rfl) Kept.nil ?_
  refine Dr.done (by kernel_rfl) ?_
  refine At.then ?_
  refine At.seq ?_
  refine At.seq ?_
  refine At.region ?_
  refine L.ld rfl rfl rfl rfl ?_
  refine L.pure rfl (ev_neqNil rfl rfl) ?_
  refine L.mv rfl rfl ?_
  refine L.on rfl rfl rfl (L.vala rfl (ev_load1 rfl rfl) (cellIs rfl) ?_)
  refine L.on rfl rfl rfl (L.vala rfl (ev_iface rfl rfl rfl) (fun _ _ => trivial) ?_)
  refine L.on rfl rfl rfl (o_call rfl rfl rfl hE (is_errno 9) (Ent.refl _) ?_)
  rintro v m ⟨rfl, rfl⟩
  refine At.app0 ?_
  refine L.on rfl rfl rfl (L.vala rfl (ev_not rfl rfl) (fun _ _ => trivial) ?_)
  refine L.pure rfl (ev_pick rfl rfl rfl) ?_
  refine L.nil ?_
  refine At.then ?_
  refine At.condF rfl ?_
  refine At.skip ?_
  refine At.then ?_
  refine At.seq ?_
  refine At.seq ?_
  refine At.region ?_
  refine L.mv rfl rfl ?_
  refine L.pure rfl (ev_neqNilS rfl rfl rfl) ?_
  refine L.nil ?_
  refine At.then ?_
  refine At.condF rfl ?_
  refine At.skip ?_
  refine At.then ?_
  refine At.seq ?_
  refine At.block ?_
  refine At.loop (X := Nat) (fun _ => [(19, .slice none 0 0), (8, .slice none 0 0), (7, ptr b7), (6, ptr b6), (0, dskI d)]) (fun _ => blk b7 109 #[.iface 48 (.int .i64 9)] :: blk b6 169 #[ptr b27] :: jrnlAt b27 d FK.J0 :: diskAt d FK.e1 :: fr) (fun _ => True) (fun _ => 0) 0 trivial ⟨rfl, rfl, rfl, rfl, rfl, trivial⟩ (Ent.refl _) ?_
  intro k hk
  refine At.seq ?_
  refine At.seq ?_
  refine At.region ?_
  refine L.mv rfl rfl ?_
  refine L.pure rfl (ev_lenS rfl rfl) ?_
  refine L.pure rfl (ev_gtr rfl rfl rfl) ?_
  refine L.mv rfl rfl ?_
  refine L.off rfl rfl rfl rfl rfl rfl ?_
  refine L.off rfl rfl rfl rfl rfl rfl ?_
  refine L.off rfl rfl rfl rfl rfl rfl ?_
  refine L.off rfl rfl rfl rfl rfl rfl ?_
  refine L.off rfl rfl rfl rfl rfl rfl ?_
  refine L.pure rfl (ev_pick rfl rfl rfl) ?_
  refine L.nil ?_
  refine At.then ?_
  refine At.condF rfl ?_
  refine At.exit ?_
  refine At.thenExit (At.roundExit (At.inBlockHit (At.then ?_)))
  refine At.seq ?_
  refine At.seq ?_
  refine At.region ?_
  refine L.mv rfl rfl ?_
  refine L.pure rfl (ev_lenS rfl rfl) ?_
  refine L.mv rfl rfl ?_
  refine L.nil ?_
  refine At.then ?_
  refine At.block ?_
  refine At.loop (X := Nat) (fun _ => [(142, .int .i64 0), (141, .int .i64 0), (7, ptr b7), (6, ptr b6), (0, dskI d)]) (fun _ => blk b7 109 #[.iface 48 (.int .i64 9)] :: blk b6 169 #[ptr b27] :: jrnlAt b27 d FK.J0 :: diskAt d FK.e1 :: fr) (fun _ => True) (fun _ => 0) 0 trivial ⟨rfl, rfl, rfl, rfl, rfl, trivial⟩ (Ent.refl _) ?_
  intro k hk
  refine At.seq ?_
  refine At.region ?_
  refine L.pure rfl (ev_lss rfl rfl rfl) ?_
  refine L.nil ?_
  refine At.then ?_
  refine At.seq ?_
  refine At.condF rfl ?_
  refine At.exit ?_
  refine At.thenExit (At.roundExit (At.inBlockHit (At.then ?_)))
  refine At.seq ?_
  refine At.region ?_
  refine L.mv rfl rfl ?_
  refine L.op rfl (o_invoke rfl rfl rfl (mSync ⟨d, 0, none⟩) rfl hE sync12 (Ent.sel (.tail (.tail (.tail .head)))) ?_)
  rintro v m ⟨rfl, rfl⟩
  refine At.app1 ?_
  refine L.st rfl rfl rfl rfl (by first | decide | simp | (simp; omega)) ?_
  refine At.blkAs b7 #[.nilIface] rfl ?_
  refine L.nil ?_
  refine At.then ?_
  refine At.ret ?_
  refine At.leave (.inl rfl) rfl rfl hE (openD_idle b6 b7) (Ent.refl _) ?_
  rintro m rfl
  refine At.app1 ?_
  refine At.res2 [jrnlAt b27 d FK.J0, diskAt d FK.e2] rfl (Res.cell1 rfl rfl (cellIs rfl)) (Res.cell1 rfl rfl (cellIs rfl)) ⟨b27, rfl, rfl⟩ ?_
  show Ent _ (jrnlAt b27 d FK.J0 :: diskAt d FK.e2 :: fr)
  exact Ent.auto
set_option maxRecDepth 10000 in
theorem torn_does {j d : Nat} {J : FK.Jn} : Does Tryz.prog G 111 [ptr j].toArray [jrnlAt j d J] fun v m => v = .bool J.torn ∧ m = [jrnlAt j d J] := by
  refine Does.body Tryz.func111 rfl rfl fun E fr hE => ?_
  refine At.app1 ?_
  refine At.seq ?_
  refine At.region ?_
  refine L.as rfl rfl ?_
  refine L.nil ?_
  refine At.then ?_
  refine At.seq ?_
  refine At.region ?_
  refine L.mv rfl rfl ?_
  refine L.nc rfl rfl ?_
  refine L.fa 2 rfl rfl rfl ?_
  refine L.ld rfl rfl rfl rfl ?_
  refine L.as rfl rfl ?_
  refine L.nil ?_
  refine At.then ?_
  refine At.ret ?_
  exact At.ret1 [_] rfl rfl ⟨rfl, rfl⟩ (Ent.refl _)
set_option maxRecDepth 10000 in
set_option maxHeartbeats 1000000 in
theorem fopen0_does {d : Nat} : Does Tryz.prog Good 63 [dskI d].toArray [diskAt d FK.e0] fun v m => ∃ f e j p, v = .tuple #[ptr f, .nilIface] ∧ m = keepL f e j d p FK.En.fresh FK.J0 FK.e2 := by
  refine Does.body Tryz.func63 rfl rfl fun E fr hE => ?_
  refine At.app1 ?_
  refine At.seq ?_
  refine At.region ?_
  refine L.as rfl rfl ?_
  refine L.as rfl rfl ?_
  refine L.nil ?_
  refine At.then ?_
  refine At.seq ?_
  refine At.region ?_
  refine L.op rfl (o_call rfl rfl rfl hE new_eng (Ent.refl _) ?_)
  rintro v m ⟨e, p, rfl, rfl⟩
  refine At.app1 ?_
  refine L.pure rfl (ev_build (ps := [(0, .tmp 8)]) (vs := [ptr e]) (cs := #[ptr e, .pointer none]) rfl rfl rfl rfl rfl) ?_
  refine L.op rfl (o_box rfl rfl fun b10 => ?_)
  refine L.op rfl (o_alloc (z := .pointer none) rfl rfl fun b4 => ?_)
  refine L.st rfl rfl rfl rfl (by first | decide | simp | (simp; omega)) ?_
  refine At.blkAs b4 #[ptr b10] rfl ?_
  refine L.nil ?_
  refine At.then ?_
  refine At.seq ?_
  refine At.region ?_
  refine L.mv rfl rfl ?_
  refine L.pure rfl (ev_func rfl rfl) ?_
  refine L.ld rfl rfl rfl rfl ?_
  refine L.pure rfl (ev_func rfl rfl) ?_
  refine L.op rfl (o_call rfl rfl rfl hE (jopen0_does _ _) (Ent.sel (.tail (.tail (.tail .head)))) ?_)
  rintro v m ⟨j, rfl, rfl⟩
  refine At.app2 ?_
  refine L.mv rfl rfl ?_
  refine L.ex rfl rfl rfl ?_
  refine L.ex rfl rfl rfl ?_
  refine L.as rfl rfl ?_
  refine L.as rfl rfl ?_
  refine L.nil ?_
  refine At.then ?_
  refine At.seq ?_
  refine At.seq ?_
  refine At.region ?_
  refine L.mv rfl rfl ?_
  refine L.pure rfl (ev_neqNil0 rfl rfl) ?_
  refine L.nil ?_
  refine At.then ?_
  refine At.condF rfl ?_
  refine At.skip ?_
  refine At.then ?_
  refine At.seq ?_
  refine At.region ?_
  refine L.ld rfl rfl rfl rfl ?_
  refine L.mv rfl rfl ?_
  refine L.nc rfl rfl ?_
  refine L.fa 1 rfl rfl rfl ?_
  refine L.st rfl rfl rfl rfl (by show 1 < 2; decide) ?_
  refine At.blkAs b10 #[ptr e, ptr j] rfl ?_
  refine L.nil ?_
  refine At.then ?_
  refine At.seq ?_
  refine At.seq ?_
  refine At.region ?_
  refine L.mv rfl rfl ?_
  refine L.op rfl (o_call rfl rfl rfl hE torn_does (Ent.sel (.tail .head)) ?_)
  rintro v m ⟨rfl, rfl⟩
  refine At.app1 ?_
  refine L.nil ?_
  refine At.then ?_
  refine At.condF rfl ?_
  refine At.skip ?_
  refine At.then ?_
  refine At.seq ?_
  refine At.region ?_
  refine L.ld rfl rfl rfl rfl ?_
  refine L.as rfl rfl ?_
  refine L.as rfl rfl ?_
  refine L.nil ?_
  refine At.then ?_
  refine At.ret ?_
  refine At.ret2 (keepL b10 e j d p FK.En.fresh FK.J0 FK.e2) rfl rfl rfl ⟨b10, e, j, p, rfl, rfl⟩ ?_
  show Ent _ (fkB b10 e j :: engX e p FK.En.fresh :: jrnlAt j d FK.J0 :: diskAt d FK.e2 :: fr)
  exact Ent.auto
set_option maxRecDepth 10000 in
set_option maxHeartbeats 1000000 in
theorem hopen0_does {h d : Nat} : Does Tryz.prog Good 28 [ptr h, wellV].toArray [hostB h d none, diskAt d FK.e0] fun v m => v = .int .i64 0 ∧ ∃ f e j p, m = hostL h f e j d p FK.En.fresh FK.J0 FK.e0 := by
  refine Does.body Tryz.func28 rfl rfl fun E fr hE => ?_
  refine At.app2 ?_
  refine At.seq ?_
  refine At.region ?_
  refine L.op rfl (o_box rfl rfl fun b3 => ?_)
  refine L.as rfl rfl ?_
  refine L.nil ?_
  refine At.then ?_
  refine At.seq ?_
  refine At.region ?_
  refine L.mv rfl rfl ?_
  refine L.val rfl (ev_loadN (vs := fallL (-1) (-1) 0 0) rfl rfl rfl rfl) (rowAll rfl) ?_
  refine L.op rfl (o_call rfl rfl rfl hE (hbefore_does (-1) (-1) 0 0) (Ent.sel2 (.tail .head) (.tail .head)) ?_)
  rintro v m ⟨rfl, rfl⟩
  refine At.app2 ?_
  rw [quietE FK.e0_quiet]
  refine At.ent (l' := hostB h d none :: diskAt d FK.e0 :: blk b3 41 (fallL (-1) (-1) 0 0).toArray :: fr) (by show Ent (_ :: _ :: blk b3 41 (fallL (-1) (-1) 0 0).toArray :: _) _; exact Ent.auto) ?_
  refine L.nil ?_
  refine At.then ?_
  refine At.seq ?_
  refine At.region ?_
  refine L.mv rfl rfl ?_
  refine L.nc rfl rfl ?_
  refine L.fa 0 rfl rfl rfl ?_
  refine L.ld rfl rfl rfl rfl ?_
  refine L.pure rfl (ev_iface rfl rfl rfl) ?_
  refine L.op rfl (o_call rfl rfl rfl hE fopen0_does (Ent.sel (.tail .head)) ?_)
  rintro v m ⟨f, e, j, p, rfl, rfl⟩
  refine At.app4 ?_
  refine L.mv rfl rfl ?_
  refine L.ex rfl rfl rfl ?_
  refine L.ex rfl rfl rfl ?_
  refine L.as rfl rfl ?_
  refine L.as rfl rfl ?_
  refine L.nil ?_
  refine At.then ?_
  refine At.seq ?_
  refine At.region ?_
  refine L.mv rfl rfl ?_
  refine L.mv rfl rfl ?_
  refine L.nc rfl rfl ?_
  refine L.fa 1 rfl rfl rfl ?_
  refine L.st rfl rfl rfl rfl (by first | decide | simp | (simp; omega)) ?_
  refine At.blkAs h #[ptr d, ptr f] rfl ?_
  refine L.nil ?_
  refine At.then ?_
  refine At.seq ?_
  refine At.seq ?_
  refine At.region ?_
  refine L.mv rfl rfl ?_
  refine L.pure rfl (ev_neqNil0 rfl rfl) ?_
  refine L.nil ?_
  refine At.then ?_
  refine At.condF rfl ?_
  refine At.skip ?_
  refine At.then ?_
  refine At.seq ?_
  refine At.ent (l' := hostP h d f :: diskAt d FK.e2 :: fkB f e j :: engX e p FK.En.fresh :: jrnlAt j d FK.J0 :: blk b3 41 (fallL (-1) (-1) 0 0).toArray :: fr) Ent.auto ?_
  refine At.region ?_
  refine L.mv rfl rfl ?_
  refine L.val rfl (ev_loadN (vs := fallL (-1) (-1) 0 0) rfl rfl rfl rfl) (rowAll rfl) ?_
  refine L.op rfl (o_call rfl rfl rfl hE (hafter_does (σ := FK.e2) (-1) (-1) 0 0 rfl) (Ent.refl _) ?_)
  rintro v m ⟨rfl, rfl⟩
  refine At.app2 ?_
  rw [show FK.e2.rested = FK.e0 from rfl]
  refine L.nil ?_
  refine At.then ?_
  refine At.seq ?_
  refine At.region ?_
  refine L.mv rfl rfl ?_
  refine L.op rfl (o_call rfl rfl rfl hE number_nil (Ent.refl _) ?_)
  rintro v m ⟨rfl, rfl⟩
  refine At.app0 ?_
  refine L.as rfl rfl ?_
  refine L.nil ?_
  refine At.then ?_
  refine At.ret ?_
  refine At.ret1 (hostL h f e j d p FK.En.fresh FK.J0 FK.e0) rfl rfl ⟨rfl, f, e, j, p, rfl⟩ ?_
  show Ent _ (hostP h d f :: fkB f e j :: engX e p FK.En.fresh :: jrnlAt j d FK.J0 :: diskAt d FK.e0 :: fr)
  exact Ent.auto
end Go.Proofs.YtmeegfamopaljaaGreatDoor
