/- The walk of the document's Decode. -/
import Derived.Test.YtagkobkmaigfcaaDoorRefRd
import Derived.Test.YtagkobkmaigfcaaDoorDec1
namespace FK
/-- reading on, where nothing went wrong -/
def runS {β : Type} (s : Except Nat Nat) (K : Nat → Except Nat β) : Except Nat β := match s with
  | .error e => .error e
  | .ok q => K q
theorem andThen_many {α β : Type} (r : Rd α) (m : Nat) (l : List α) (q : Nat) (K : List α → Rd β) : andThen (many r (m + 1) l q) K = andThen (r q) fun x q => andThen (many r m (l ++ [x]) q) K := by
  simp only [many]
  cases h : r q with
  | error e => rfl
  | ok x => rfl
theorem andThen_assoc {α β γ : Type} (a : Except Nat (α × Nat)) (f : α → Rd β) (g : β → Rd γ) : andThen (andThen a f) g = andThen a fun x q => andThen (f x q) g := by
  cases a <;> rfl
theorem dec_of_err {bs : List UInt8} {e : Nat} (h : rdFlow bs 0 = .error e) : dec bs = .error (1, (e : Int)) := by
  unfold dec
  rw [h]
end FK
namespace Go.Proofs.YtagkobkmaigfcaaDoor
open Go Go.RowKit Go.SL
variable {G : Env → Prop}

theorem runS_next {β : Type} {bs : List UInt8} {s : Except Nat Nat} {k : Int} (hk : NextIs bs s k) (K : Int → FK.Rd β) : FK.runS s (fun q => FK.andThen (FK.rdInt bs q) K) = FK.runS (nextS bs s) (fun q => K k q) := by
  cases s with
  | error e => rfl
  | ok q =>
    simp only [FK.runS, nextS, FK.rdInt]
    cases h : FK.rd bs q with
    | error e => rfl
    | ok x => obtain ⟨n, q'⟩ := x; simp only [FK.andThen]; rw [hk q n q' rfl h]
theorem runS_list {α β : Type} {bs : List UInt8} {s : Except Nat Nat} {k : Int} (hk : NextIs bs s k) (r : FK.Rd α) (K : List α → FK.Rd β) : FK.runS s (fun q => FK.andThen (FK.rdList bs r q) K) = FK.runS (nextS bs s) (fun q => FK.andThen (FK.many r k.toNat [] q) K) := by
  cases s with
  | error e => rfl
  | ok q =>
    simp only [FK.runS, nextS, FK.rdList]
    cases h : FK.rd bs q with
    | error e => rfl
    | ok x => obtain ⟨n, q'⟩ := x; simp only; rw [hk q n q' rfl h, Int.toNat_natCast]
theorem runS_nums {β : Type} {bs : List UInt8} {s : Except Nat Nat} {k : Int} (hk : NextIs bs s k) (j : Nat) (l : List Int) (K : FK.Node → FK.Rd β) : FK.runS s (fun q => FK.andThen (FK.rdNums bs (j + 1) l q) K) = FK.runS (nextS bs s) (fun q => FK.andThen (FK.rdNums bs j (l ++ [k]) q) K) := by
  rw [← runS_next hk (fun x q => FK.andThen (FK.rdNums bs j (l ++ [x]) q) K)]
  congr 1
  funext q
  simp only [FK.rdNums, FK.andThen_assoc]
theorem runS_after {β : Type} {bs : List UInt8} {s : Except Nat Nat} {k : Int} (hk : NextIs bs s k) (l : List Int) (K : FK.Node → FK.Rd β) : FK.runS s (fun q => FK.andThen (FK.rdNums bs 0 l q) K) = FK.runS (nextS bs s) (fun q => FK.andThen (FK.many (FK.rdInt bs) k.toNat [] q) fun after q => K (FK.node7 l after) q) := by
  rw [← runS_list hk (FK.rdInt bs) fun after q => K (FK.node7 l after) q]
  congr 1
  funext q
  simp only [FK.rdNums, FK.andThen_assoc]
  rfl

theorem dec_snoc {v' : Value} {vs : List Value} {ns : List FK.Node} {u : Value} {nd : FK.Node} {b6 b81 rm p b10 b2 : HP} {fr : List HP} (h : vs.length = ns.length) :
    Ent (b6 :: row 32 7 v' (ns.length + 1) (nodesV ns vs ++ nodeCells nd u) :: b81 :: rm :: p :: intsAt u nd.after :: b10 :: b2 :: (aftsAt vs ns ++ fr)) (rm :: p :: b6 :: row 32 7 v' (ns ++ [nd]).length (nodesV (ns ++ [nd]) (vs ++ [u])) :: b2 :: (aftsAt (vs ++ [u]) (ns ++ [nd]) ++ fr)) := by
  rw [aftsAt_snoc h, nodesV_snoc ns vs nd u h, show (ns ++ [nd]).length = ns.length + 1 by simp]
  refine (Ent.sel3 (.tail (.tail (.tail (.head)))) (.tail (.tail (.tail (.head)))) .head).trans (Ent.cons (Ent.cons (Ent.cons (Ent.cons (Ent.drop.trans ((Ent.sel2 (.tail (.tail (.head))) .head).trans (Ent.cons ?_)))))))
  refine (Ent.cons Ent.drop).trans (Ent.perm ?_)
  have h2 : (intsAt u nd.after :: (aftsAt vs ns ++ fr)).Perm (aftsAt vs ns ++ intsAt u nd.after :: fr) := List.perm_middle.symm
  simpa using h2
theorem dec_close {v : Value} {vs : List Value} {ns : List FK.Node} {rm p b6 b2 : HP} {fr : List HP} (h : vs.length = ns.length) :
    Ent (rm :: p :: b6 :: row 32 7 v ns.length (nodesV ns vs) :: b2 :: (aftsAt vs ns ++ fr)) (nodesOwn v ns :: rm :: p :: b6 :: b2 :: fr) := by
  refine (Ent.perm ?_).trans (nodesOwn.ent h)
  have h1 : (([rm, p, b6] ++ [row 32 7 v ns.length (nodesV ns vs)]) ++ (b2 :: (aftsAt vs ns ++ fr))).Perm (([row 32 7 v ns.length (nodesV ns vs)] ++ [rm, p, b6]) ++ (b2 :: (aftsAt vs ns ++ fr))) := List.perm_append_comm.append_right _
  refine h1.trans (List.Perm.cons _ ?_)
  have h2 : (([rm, p, b6, b2] ++ aftsAt vs ns) ++ fr).Perm ((aftsAt vs ns ++ [rm, p, b6, b2]) ++ fr) := List.perm_append_comm.append_right _
  simpa using h2

/-- a node, by seven numbers and a list -/
theorem runS_node {β : Type} {bs : List UInt8} {s : Except Nat Nat} {k0 k1 k2 k3 k4 k5 k6 : Int} (h0 : NextIs bs s k0) (h1 : NextIs bs (nextS bs s) k1) (h2 : NextIs bs (nextS bs (nextS bs s)) k2) (h3 : NextIs bs (nextS bs (nextS bs (nextS bs s))) k3) (h4 : NextIs bs (nextS bs (nextS bs (nextS bs (nextS bs s)))) k4)
    (h5 : NextIs bs (nextS bs (nextS bs (nextS bs (nextS bs (nextS bs s))))) k5) (h6 : NextIs bs (nextS bs (nextS bs (nextS bs (nextS bs (nextS bs (nextS bs s)))))) k6) (K : FK.Node → FK.Rd β) :
    FK.runS (nextS bs (nextS bs (nextS bs (nextS bs (nextS bs (nextS bs (nextS bs s))))))) (fun q => FK.andThen (FK.many (FK.rdInt bs) k6.toNat [] q) fun after q => K (FK.node7 [k0, k1, k2, k3, k4, k5] after) q) = FK.runS s (fun q => FK.andThen (FK.rdNode bs q) K) :=
  (runS_after h6 [k0, k1, k2, k3, k4, k5] K).symm.trans ((runS_nums h5 0 [k0, k1, k2, k3, k4] K).symm.trans ((runS_nums h4 1 [k0, k1, k2, k3] K).symm.trans ((runS_nums h3 2 [k0, k1, k2] K).symm.trans ((runS_nums h2 3 [k0, k1] K).symm.trans ((runS_nums h1 4 [k0] K).symm.trans (runS_nums h0 5 [] K).symm)))))
theorem node_small {bs : List UInt8} {s : Except Nat Nat} {k0 k1 k2 k3 k4 k5 : Int} {q : Nat} (h0 : NextIs bs s k0) (h1 : NextIs bs (nextS bs s) k1) (h2 : NextIs bs (nextS bs (nextS bs s)) k2) (h3 : NextIs bs (nextS bs (nextS bs (nextS bs s))) k3) (h4 : NextIs bs (nextS bs (nextS bs (nextS bs (nextS bs s)))) k4)
    (h5 : NextIs bs (nextS bs (nextS bs (nextS bs (nextS bs (nextS bs s))))) k5) (h : nextS bs (nextS bs (nextS bs (nextS bs (nextS bs (nextS bs (nextS bs s)))))) = .ok q) : ∀ y ∈ [k0, k1, k2, k3, k4, k5], 0 ≤ y ∧ y < 2097152 := by
  obtain ⟨_, _, e6, _⟩ := nextS_ok h
  obtain ⟨_, _, e5, _⟩ := nextS_ok e6
  obtain ⟨_, _, e4, _⟩ := nextS_ok e5
  obtain ⟨_, _, e3, _⟩ := nextS_ok e4
  obtain ⟨_, _, e2, _⟩ := nextS_ok e3
  obtain ⟨_, _, e1, _⟩ := nextS_ok e2
  simp only [List.mem_cons, List.not_mem_nil, or_false, forall_eq_or_imp, forall_eq]
  exact ⟨h0.small e1, h1.small e2, h2.small e3, h3.small e4, h4.small e5, h5.small e6⟩

theorem small7 {ks xs : List Int} (h : ∀ y ∈ ks, 0 ≤ y ∧ y < 2097152) (h' : ∀ y ∈ xs, 0 ≤ y ∧ y < 2097152) : Small (FK.node7 ks xs) :=
  ⟨fun x hx => by simp only [nums, FK.node7, List.mem_cons, List.not_mem_nil, or_false] at hx; rcases hx with rfl | rfl | rfl | rfl | rfl | rfl <;> exact getD_small h _, h'⟩

theorem zeroNode : setRow (Value.agg #[.int .i64 0, .int .i64 0, .int .i64 0, .int .i64 0, .int .i64 0, .int .i64 0, .slice none 0 0]).cells 0 [.int .i64 0, .int .i64 0, .int .i64 0, .int .i64 0, .int .i64 0, .int .i64 0, .slice none 0 0] = #[.int .i64 0, .int .i64 0, .int .i64 0, .int .i64 0, .int .i64 0, .int .i64 0, .slice none 0 0] := rfl

theorem runS_begin {bs : List UInt8} {dl nn : Int} (h0 : NextIs bs (.ok 0) dl) (h1 : NextIs bs (nextS bs (.ok 0)) nn) : FK.runS (nextS bs (nextS bs (.ok 0))) (fun q => FK.andThen (FK.many (FK.rdNode bs) nn.toNat [] q) fun nodes q => .ok ((⟨dl, nodes⟩ : FK.Flow), q)) = FK.rdFlow bs 0 :=
  (runS_list h1 (FK.rdNode bs) fun nodes q => .ok ((⟨dl, nodes⟩ : FK.Flow), q)).symm.trans (runS_next h0 fun dl q => FK.andThen (FK.rdList bs (FK.rdNode bs) q) fun nodes q => .ok ((⟨dl, nodes⟩ : FK.Flow), q)).symm

/-- what follows a node -/
def restK (bs : List UInt8) (m : Nat) (dl : Int) (ns : List FK.Node) : FK.Node → FK.Rd FK.Flow := fun nd q => FK.andThen (FK.many (FK.rdNode bs) m (ns ++ [nd]) q) fun nodes q => .ok (⟨dl, nodes⟩, q)

theorem not_bad {s : Except Nat Nat} (h : isBad s = false) : ∃ q, s = .ok q := by
  cases s with
  | error e => cases h
  | ok q => exact ⟨q, rfl⟩

/-- what is known of numbers, where nothing went wrong -/
def Fine (s : Except Nat Nat) (bs : List UInt8) (P : Prop) : Prop := ∀ q, s = .ok q → q ≤ bs.length ∧ P

set_option maxRecDepth 10000 in
set_option maxHeartbeats 1000000 in
theorem ref_decode {p : HP} {A : Option Addr} {c : Nat} {bs : List UInt8} (hp : Reads p A bs) (hl : bs.length ≤ 1099511627776) : Does Tryd.prog Good 34 [.slice A bs.length c].toArray [p] (DecPost bs p) := by
  refine Does.body Tryd.func34 rfl rfl fun E fr hE => ?_
  refine At.app1 ?_
  refine At.seq ?_
  refine At.region ?_
  refine L.op rfl (o_alloc (z := .agg #[.int .i64 0, .slice none 0 0]) rfl rfl fun b2 => ?_)
  refine L.as rfl rfl ?_
  refine L.as rfl rfl ?_
  refine L.nil ?_
  refine At.then ?_
  refine At.seq ?_
  refine At.region ?_
  refine L.mv rfl rfl ?_
  refine L.pure rfl (ev_build (ps := [(0, .tmp 16)]) (vs := [.slice A bs.length c]) (cs := #[.slice A bs.length c, .int .i64 0, .bool false]) rfl rfl rfl rfl rfl) ?_
  refine L.op rfl (o_box rfl rfl fun b18 => ?_)
  refine L.as rfl rfl ?_
  refine L.nil ?_
  refine At.then ?_
  refine At.seq ?_
  refine At.region ?_
  refine L.pure rfl (ev_build (ps := []) (vs := []) (cs := #[.int .i64 0, .slice none 0 0]) rfl rfl rfl rfl rfl) ?_
  refine L.op rfl (o_alloc (z := .agg #[.int .i64 0, .slice none 0 0]) rfl rfl fun b6 => ?_)
  refine L.op rfl (o_storeN rfl (m := 2) (vs := [.int .i64 0, .slice none 0 0]) rfl rfl rfl rfl (by simp [Value.oneCell']) (by simp [Value.cells]) ?_)
  refine L.nil ?_
  refine At.then ?_
  refine At.seq ?_
  refine At.region ?_
  refine L.op rfl (o_alloc (z := .int .i64 0) rfl rfl fun b7 => ?_)
  refine L.st rfl rfl rfl rfl (by first | decide | simp | (simp; omega)) ?_
  refine At.ent ((Ent.sel2 (.tail (.tail (.head))) .head).trans rmem.mkOk) ?_
  refine L.nil ?_
  refine At.then ?_
  refine At.seq ?_
  refine At.region ?_
  refine L.mv rfl rfl ?_
  refine L.op rfl (o_call rfl rfl rfl hE (ref_next (c := c) hp hl b18 b7 (.ok 0) (fun q h => by injection h with h; omega)) (Ent.sel2 .head (.tail (.tail (.head)))) ?_)
  rintro v m ⟨dl, rfl, hk0, hq0, rfl⟩
  refine At.app2 ?_
  refine L.fa 0 rfl rfl rfl ?_
  refine L.st rfl rfl rfl rfl (by first | decide | simp | (simp; omega)) ?_
  refine L.nil ?_
  refine At.then ?_
  refine At.seq ?_
  refine At.region ?_
  refine L.mv rfl rfl ?_
  refine L.op rfl (o_call rfl rfl rfl hE (ref_next (c := c) hp hl b18 b7 _ hq0) (Ent.sel2 (.tail (.head)) (.tail (.head))) ?_)
  rintro v m ⟨nn, rfl, hk1, hq1, rfl⟩
  refine At.app2 ?_
  refine L.as rfl rfl ?_
  refine L.nil ?_
  refine At.then ?_
  refine At.seq ?_
  refine At.seq ?_
  refine At.region ?_
  refine L.as rfl rfl ?_
  refine L.nil ?_
  refine At.then ?_
  refine At.block ?_
  refine At.loop (X := Except Nat Nat × Nat × List FK.Node × List Value × Value) (fun x => [(9, .int .i64 x.2.1), (8, .int .i64 nn), (5, .pointer (some ⟨b18, 0, none⟩)), (6, .pointer (some ⟨b6, 0, none⟩)), (7, .pointer (some ⟨b7, 0, none⟩)), (2, .pointer (some ⟨b2, 0, none⟩)), (0, .slice A bs.length c)]) (fun x => rmem b18 b7 A c bs x.1 :: p :: blk b6 24 #[.int .i64 dl, x.2.2.2.2] :: row 32 7 x.2.2.2.2 x.2.2.1.length (nodesV x.2.2.1 x.2.2.2.1) :: blk b2 24 #[.int .i64 0, .slice none 0 0] :: (aftsAt x.2.2.2.1 x.2.2.1 ++ fr)) (fun x => FK.runS x.1 (fun q => FK.andThen (FK.many (FK.rdNode bs) (nn.toNat - x.2.1) x.2.2.1 q) fun nodes q => .ok (⟨dl, nodes⟩, q)) = FK.rdFlow bs 0 ∧ x.2.1 ≤ nn.toNat ∧ x.2.2.1.length = x.2.1 ∧ x.2.2.2.1.length = x.2.2.1.length ∧ Fine x.1 bs ((0 ≤ nn ∧ nn < 2097152) ∧ ∀ y ∈ x.2.2.1, Small y)) (fun x => nn.toNat - x.2.1) (nextS bs (nextS bs (.ok 0)), 0, [], [], .slice none 0 0) ⟨runS_begin hk0 hk1, by simp, rfl, rfl, fun q h => ⟨hq1 q h, hk1.small h, by simp⟩⟩ ⟨rfl, rfl, rfl, rfl, rfl, rfl, rfl, trivial⟩ ((Ent.sel3 .head .head .head).trans (Ent.cons (Ent.cons (Ent.cons Ent.row0)))) ?_
  rintro ⟨s, i, ns, vs, v6⟩ ⟨hT, hi, hni, hvs, hfine⟩
  simp only at hT hi hni hvs hfine ⊢
  refine At.seq ?_
  refine At.seq ?_
  refine At.region ?_
  refine L.mv rfl rfl ?_
  refine L.mv rfl rfl ?_
  refine L.bool rfl (ev_lss rfl rfl rfl) (fun _ _ => trivial) fun c27 e27 => ?_
  refine L.mv rfl rfl ?_
  refine L.abs c27 (by rfl) ?_
  refine L.g rfl rfl (fun _ => rfl) (ev_move rfl) (fun _ _ => trivial) ?_
  refine L.abs c27 (by rfl) ?_
  refine L.g rfl rfl (fun _ => rfl) (ev_nil rfl) (fun _ _ => trivial) ?_
  refine L.abs c27 (by rfl) ?_
  refine L.g rfl rfl (fun _ => rfl) (ev_field (off := 2) rfl rfl) (fun _ _ => trivial) ?_
  refine L.abs c27 (by rfl) ?_
  refine L.g rfl rfl (fun _ => rfl) (ev_load1 rfl rfl) (rmem.bad .head) ?_
  refine L.abs c27 (by rfl) ?_
  refine L.g rfl rfl (fun _ => rfl) (ev_not rfl rfl) (fun _ _ => trivial) ?_
  refine L.bool rfl (ev_pickAnd rfl rfl rfl) (fun _ _ => trivial) fun c34 e34 => ?_
  refine L.nil ?_
  refine At.then ?_
  refine At.cond rfl (fun c34 => ?_) (fun c34 => ?_)
  ·
    rw [e34, e27] at c34
    simp only [Bool.and_eq_true, decide_eq_true_eq, Bool.not_eq_true'] at c34
    obtain ⟨hlt, hbad⟩ := c34
    obtain ⟨q, rfl⟩ := not_bad hbad
    obtain ⟨hq, ⟨hnn0, hnn1⟩, hsm⟩ := hfine q rfl
    have hsucc : nn.toNat - i = (nn.toNat - i - 1) + 1 := by omega
    rw [hsucc] at hT
    simp only [FK.runS] at hT
    rw [FK.andThen_many] at hT
    refine At.skip ?_
    refine At.then ?_
    refine At.seq ?_
    refine At.block ?_
    refine At.seq ?_
    refine At.region ?_
    refine L.pure rfl (ev_build (ps := []) (vs := []) (cs := #[.int .i64 0, .int .i64 0, .int .i64 0, .int .i64 0, .int .i64 0, .int .i64 0, .slice none 0 0]) rfl rfl rfl rfl rfl) ?_
    refine L.op rfl (o_alloc (z := .agg #[.int .i64 0, .int .i64 0, .int .i64 0, .int .i64 0, .int .i64 0, .int .i64 0, .slice none 0 0]) rfl rfl fun b10 => ?_)
    refine L.op rfl (o_storeN rfl (m := 7) (vs := [.int .i64 0, .int .i64 0, .int .i64 0, .int .i64 0, .int .i64 0, .int .i64 0, .slice none 0 0]) rfl rfl rfl rfl (by simp [Value.oneCell']) (by simp [Value.cells]) ?_)
    rw [zeroNode]
    refine L.nil ?_
    refine At.then ?_
    refine At.seq ?_
    refine At.region ?_
    refine L.mv rfl rfl ?_
    refine L.op rfl (o_call rfl rfl rfl hE (ref_next (c := c) hp hl b18 b7 (.ok q) (fun q h => by injection h with h; omega)) (Ent.sel2 (.tail (.head)) (.tail (.head))) ?_)
    rintro v m ⟨k0, rfl, h0, g0, rfl⟩
    refine At.app2 ?_
    refine L.fa 0 rfl rfl rfl ?_
    refine L.st rfl rfl rfl rfl (by first | decide | simp | (simp; omega)) ?_
    refine L.nil ?_
    refine At.then ?_
    refine At.seq ?_
    refine At.region ?_
    refine L.mv rfl rfl ?_
    refine L.op rfl (o_call rfl rfl rfl hE (ref_next (c := c) hp hl b18 b7 _ g0) (Ent.sel2 (.tail (.head)) (.tail (.head))) ?_)
    rintro v m ⟨k1, rfl, h1, g1, rfl⟩
    refine At.app2 ?_
    refine L.fa 1 rfl rfl rfl ?_
    refine L.st rfl rfl rfl rfl (by first | decide | simp | (simp; omega)) ?_
    refine L.nil ?_
    refine At.then ?_
    refine At.seq ?_
    refine At.region ?_
    refine L.mv rfl rfl ?_
    refine L.op rfl (o_call rfl rfl rfl hE (ref_next (c := c) hp hl b18 b7 _ g1) (Ent.sel2 (.tail (.head)) (.tail (.head))) ?_)
    rintro v m ⟨k2, rfl, h2, g2, rfl⟩
    refine At.app2 ?_
    refine L.fa 2 rfl rfl rfl ?_
    refine L.st rfl rfl rfl rfl (by first | decide | simp | (simp; omega)) ?_
    refine L.nil ?_
    refine At.then ?_
    refine At.seq ?_
    refine At.region ?_
    refine L.mv rfl rfl ?_
    refine L.op rfl (o_call rfl rfl rfl hE (ref_next (c := c) hp hl b18 b7 _ g2) (Ent.sel2 (.tail (.head)) (.tail (.head))) ?_)
    rintro v m ⟨k3, rfl, h3, g3, rfl⟩
    refine At.app2 ?_
    refine L.fa 3 rfl rfl rfl ?_
    refine L.st rfl rfl rfl rfl (by first | decide | simp | (simp; omega)) ?_
    refine L.nil ?_
    refine At.then ?_
    refine At.seq ?_
    refine At.region ?_
    refine L.mv rfl rfl ?_
    refine L.op rfl (o_call rfl rfl rfl hE (ref_next (c := c) hp hl b18 b7 _ g3) (Ent.sel2 (.tail (.head)) (.tail (.head))) ?_)
    rintro v m ⟨k4, rfl, h4, g4, rfl⟩
    refine At.app2 ?_
    refine L.fa 4 rfl rfl rfl ?_
    refine L.st rfl rfl rfl rfl (by first | decide | simp | (simp; omega)) ?_
    refine L.nil ?_
    refine At.then ?_
    refine At.seq ?_
    refine At.region ?_
    refine L.mv rfl rfl ?_
    refine L.op rfl (o_call rfl rfl rfl hE (ref_next (c := c) hp hl b18 b7 _ g4) (Ent.sel2 (.tail (.head)) (.tail (.head))) ?_)
    rintro v m ⟨k5, rfl, h5, g5, rfl⟩
    refine At.app2 ?_
    refine L.fa 5 rfl rfl rfl ?_
    refine L.st rfl rfl rfl rfl (by first | decide | simp | (simp; omega)) ?_
    refine L.nil ?_
    refine At.then ?_
    refine At.seq ?_
    refine At.region ?_
    refine L.mv rfl rfl ?_
    refine L.op rfl (o_call rfl rfl rfl hE (ref_next (c := c) hp hl b18 b7 _ g5) (Ent.sel2 (.tail (.head)) (.tail (.head))) ?_)
    rintro v m ⟨k6, rfl, h6, g6, rfl⟩
    refine At.app2 ?_
    refine L.as rfl rfl ?_
    refine L.nil ?_
    refine At.then ?_
    refine At.seq ?_
    refine At.seq ?_
    refine At.region ?_
    refine L.as rfl rfl ?_
    refine L.nil ?_
    refine At.then ?_
    refine At.block ?_
    refine At.loop (X := Except Nat Nat × Nat × List Int × Value) (fun x => [(12, .int .i64 x.2.1), (11, .int .i64 k6), (10, .pointer (some ⟨b10, 0, none⟩)), (9, .int .i64 i), (8, .int .i64 nn), (5, .pointer (some ⟨b18, 0, none⟩)), (6, .pointer (some ⟨b6, 0, none⟩)), (7, .pointer (some ⟨b7, 0, none⟩)), (2, .pointer (some ⟨b2, 0, none⟩)), (0, .slice A bs.length c)]) (fun x => rmem b18 b7 A c bs x.1 :: p :: intsAt x.2.2.2 x.2.2.1 :: blk b10 32 #[.int .i64 k0, .int .i64 k1, .int .i64 k2, .int .i64 k3, .int .i64 k4, .int .i64 k5, x.2.2.2] :: blk b6 24 #[.int .i64 dl, v6] :: row 32 7 v6 ns.length (nodesV ns vs) :: blk b2 24 #[.int .i64 0, .slice none 0 0] :: (aftsAt vs ns ++ fr)) (fun x => FK.runS x.1 (fun q => FK.andThen (FK.many (FK.rdInt bs) (k6.toNat - x.2.1) x.2.2.1 q) fun after q => restK bs (nn.toNat - i - 1) dl ns (FK.node7 [k0, k1, k2, k3, k4, k5] after) q) = FK.rdFlow bs 0 ∧ x.2.1 ≤ k6.toNat ∧ x.2.2.1.length = x.2.1 ∧ Fine x.1 bs ((0 ≤ k6 ∧ k6 < 2097152) ∧ (∀ y ∈ [k0, k1, k2, k3, k4, k5], 0 ≤ y ∧ y < 2097152) ∧ ∀ y ∈ x.2.2.1, 0 ≤ y ∧ y < 2097152)) (fun x => k6.toNat - x.2.1) (_, 0, [], .slice none 0 0) ⟨(runS_node h0 h1 h2 h3 h4 h5 h6 (restK bs (nn.toNat - i - 1) dl ns)).trans hT, by simp, rfl, fun q h => ⟨g6 q h, h6.small h, node_small h0 h1 h2 h3 h4 h5 h, by simp⟩⟩ ⟨rfl, rfl, rfl, rfl, rfl, rfl, rfl, rfl, rfl, rfl, trivial⟩ (Ent.cons (Ent.cons Ent.row0)) ?_
    rintro ⟨s2, kk, xs, v⟩ ⟨hT2, hkk, hxl, hfine2⟩
    simp only at hT2 hkk hxl hfine2 ⊢
    refine At.seq ?_
    refine At.seq ?_
    refine At.region ?_
    refine L.mv rfl rfl ?_
    refine L.mv rfl rfl ?_
    refine L.bool rfl (ev_lss rfl rfl rfl) (fun _ _ => trivial) fun c60 e60 => ?_
    refine L.mv rfl rfl ?_
    refine L.abs c60 (by rfl) ?_
    refine L.g rfl rfl (fun _ => rfl) (ev_move rfl) (fun _ _ => trivial) ?_
    refine L.abs c60 (by rfl) ?_
    refine L.g rfl rfl (fun _ => rfl) (ev_nil rfl) (fun _ _ => trivial) ?_
    refine L.abs c60 (by rfl) ?_
    refine L.g rfl rfl (fun _ => rfl) (ev_field (off := 2) rfl rfl) (fun _ _ => trivial) ?_
    refine L.abs c60 (by rfl) ?_
    refine L.g rfl rfl (fun _ => rfl) (ev_load1 rfl rfl) (rmem.bad .head) ?_
    refine L.abs c60 (by rfl) ?_
    refine L.g rfl rfl (fun _ => rfl) (ev_not rfl rfl) (fun _ _ => trivial) ?_
    refine L.bool rfl (ev_pickAnd rfl rfl rfl) (fun _ _ => trivial) fun c67 e67 => ?_
    refine L.nil ?_
    refine At.then ?_
    refine At.cond rfl (fun c67 => ?_) (fun c67 => ?_)
    ·
      rw [e67, e60] at c67
      simp only [Bool.and_eq_true, decide_eq_true_eq, Bool.not_eq_true'] at c67
      obtain ⟨hlt2, hbad2⟩ := c67
      obtain ⟨q2, rfl⟩ := not_bad hbad2
      obtain ⟨hq2, ⟨hk60, hk61⟩, hks, hxs⟩ := hfine2 q2 rfl
      have hsucc2 : k6.toNat - kk = (k6.toNat - kk - 1) + 1 := by omega
      rw [hsucc2] at hT2
      simp only [FK.runS] at hT2
      rw [FK.andThen_many] at hT2
      refine At.skip ?_
      refine At.then ?_
      refine At.seq ?_
      refine At.block ?_
      refine At.seq ?_
      refine At.region ?_
      refine L.mv rfl rfl ?_
      refine L.op rfl (o_call rfl rfl rfl hE (ref_next (c := c) hp hl b18 b7 (.ok q2) (fun q h => by injection h with h; omega)) (Ent.refl _) ?_)
      rintro v m ⟨d, rfl, hd, gd, rfl⟩
      refine At.app2 ?_
      refine L.as rfl rfl ?_
      refine L.nil ?_
      refine At.then ?_
      refine At.region ?_
      refine L.fa 6 rfl rfl rfl ?_
      refine L.ld rfl rfl rfl rfl ?_
      refine L.mv rfl rfl ?_
      refine L.op rfl (o_slice1 (z := .int .i64 0) rfl rfl rfl rfl rfl rfl fun b75 => ?_)
      refine L.op rfl (o_append rfl rfl infoInt rfl (by omega) rfl rfl (.tail (.tail (.tail (.head)))) (news := [.int .i64 d]) rfl (fun h => by cases h) (srcIs (fun j u h => by simpa using h)) (by simp [Value.oneCell']) (by unfold maxLen; omega) (by omega) fun v' hv' => ?_)
      refine At.formRow .head ?_
      rintro A7 c7 rfl _ _ _ _ _
      refine L.fa 6 rfl rfl rfl ?_
      refine L.st rfl rfl rfl rfl (by first | decide | simp | (simp; omega)) ?_
      refine L.nil ?_
      refine At.inBlock (At.then ?_)
      refine At.region ?_
      refine L.mv rfl rfl ?_
      refine L.pure rfl (ev_add rfl rfl (w64 (by omega))) ?_
      refine L.as rfl rfl ?_
      refine L.nil ?_
      exact At.round (nextS bs (.ok q2), kk + 1, xs ++ [d], .slice A7 (xs.length + 1) c7) ⟨by rw [show k6.toNat - (kk + 1) = k6.toNat - kk - 1 by omega, ← runS_next hd fun x q => FK.andThen (FK.many (FK.rdInt bs) (k6.toNat - kk - 1) (xs ++ [x]) q) fun after q => restK bs (nn.toNat - i - 1) dl ns (FK.node7 [k0, k1, k2, k3, k4, k5] after) q]; exact hT2, by simp only; omega, by simp [hxl], fun q h => ⟨gd q h, ⟨hk60, hk61⟩, hks, fun z hz => (by rcases List.mem_append.1 hz with h' | h'; exact hxs z h'; simp at h'; rw [h']; exact hd.small h)⟩⟩ (by simp only; omega) ⟨rfl, rfl, rfl, rfl, rfl, rfl, rfl, rfl, rfl, rfl, trivial⟩ (by rw [intsAt_snoc]; exact (Ent.sel3 (.tail (.tail (.tail (.head)))) (.tail (.tail (.tail (.head)))) (.tail (.head))).trans (Ent.cons (Ent.cons (Ent.cons (Ent.cons Ent.drop)))))
    ·
      have hT3 : FK.runS s2 (fun q => restK bs (nn.toNat - i - 1) dl ns (FK.node7 [k0, k1, k2, k3, k4, k5] xs) q) = FK.rdFlow bs 0 := by
        cases s2 with
        | error e => exact hT2
        | ok q3 =>
          have h6 := (hfine2 q3 rfl).2.1
          have hk : k6.toNat - kk = 0 := by
            rw [e67, e60] at c67
            simp [isBad] at c67
            omega
          rw [hk] at hT2
          exact hT2
      refine At.formRow (.tail (.tail (.head))) ?_
      rintro A8 c8 rfl _ _ _ _ _
      refine At.exit ?_
      refine At.thenExit (At.roundExit (At.inBlockHit (At.then ?_)))
      refine At.region ?_
      refine L.fa 1 rfl rfl rfl ?_
      refine L.ld rfl rfl rfl rfl ?_
      refine L.val rfl (ev_loadN (vs := nodeCells (FK.node7 [k0, k1, k2, k3, k4, k5] xs) (.slice A8 xs.length c8)) rfl rfl rfl rfl) (rowAll rfl) ?_
      refine L.op rfl (o_slices (m := 1) (z := .agg #[.int .i64 0, .int .i64 0, .int .i64 0, .int .i64 0, .int .i64 0, .int .i64 0, .slice none 0 0]) (size := 7) (ps := [(0, .tmp 80)]) (vs := [.agg (nodeCells (FK.node7 [k0, k1, k2, k3, k4, k5] xs) (.slice A8 xs.length c8)).toArray]) (cs := (nodeCells (FK.node7 [k0, k1, k2, k3, k4, k5] xs) (.slice A8 xs.length c8)).toArray) rfl rfl rfl rfl (by omega) (by omega) rfl (fill_node _ _) fun b81 => ?_)
      refine L.op rfl (o_append rfl rfl infoNode rfl (by omega) rfl rfl (.tail (.tail (.tail (.tail (.tail (.tail (.head))))))) (news := nodeCells (FK.node7 [k0, k1, k2, k3, k4, k5] xs) (.slice A8 xs.length c8)) rfl (fun h => by cases h) (srcIs (fun j u h => by simpa using h)) (by simp [nodeCells, Value.oneCell']) (by unfold maxLen; omega) (by omega) fun v' hv' => ?_)
      refine At.formRow .head ?_
      rintro A9 c9 rfl _ _ _ _ _
      refine L.fa 1 rfl rfl rfl ?_
      refine L.st rfl rfl rfl rfl (by first | decide | simp | (simp; omega)) ?_
      refine L.nil ?_
      refine At.inBlock (At.then ?_)
      refine At.region ?_
      refine L.mv rfl rfl ?_
      refine L.pure rfl (ev_add rfl rfl (w64 (by omega))) ?_
      refine L.as rfl rfl ?_
      refine L.nil ?_
      exact At.round (s2, i + 1, ns ++ [FK.node7 [k0, k1, k2, k3, k4, k5] xs], vs ++ [.slice A8 xs.length c8], .slice A9 (ns.length + 1) c9) ⟨by rw [show nn.toNat - (i + 1) = nn.toNat - i - 1 by omega]; exact hT3, by simp only; omega, by simp [hni], by simp [hvs], fun q h => ⟨(hfine2 q h).1, ⟨hnn0, hnn1⟩, fun z hz => (by rcases List.mem_append.1 hz with h' | h'; exact hsm z h'; simp at h'; rw [h']; exact small7 (hfine2 q h).2.2.1 (hfine2 q h).2.2.2)⟩⟩ (by simp only; omega) ⟨rfl, rfl, rfl, rfl, rfl, rfl, rfl, trivial⟩ (dec_snoc hvs)
  ·
    refine At.formRow (.tail (.tail (.tail (.head)))) ?_
    rintro A9 c9 rfl _ _ _ _ _
    refine At.exit ?_
    refine At.thenExit (At.roundExit (At.inBlockHit (At.then ?_)))
    refine At.seq ?_
    refine At.seq ?_
    by_cases hs : ∃ e, s = .error e
    ·
      obtain ⟨e, rfl⟩ := hs
      refine At.region ?_
      refine L.mv rfl rfl ?_
      refine L.nc rfl rfl ?_
      refine L.fa 2 rfl rfl rfl ?_
      refine L.val rfl (ev_load1 rfl rfl) (rmem.bad .head) ?_
      refine L.nil ?_
      refine At.then ?_
      refine At.condT rfl ?_
      refine At.seq ?_
      refine Dr.start rfl ?_
      refine Dr.p 0 rfl rfl (by kernel_rfl) (ev_build (ps := []) (vs := []) (cs := #[.int .i64 0, .slice none 0 0]) rfl rfl rfl rfl rfl) ?_
      refine Dr.ld 1 rfl rfl (by kernel_rfl) (ev_load1 rfl rfl) (rmem.start .head) ?_
      refine Dr.run 2 rfl rfl (by kernel_rfl) (o_storeN rfl (m := 2) (vs := [.int .i64 0, .slice none 0 0]) rfl rfl rfl rfl (by simp [Value.oneCell']) (by simp) ?_)
      refine Dr.kept [true] (by kernel_rfl) (Kept.cons (rmem.start (.tail (.head))) Kept.nil) ?_
      refine Dr.p 3 rfl rfl (by kernel_rfl) (ev_assign rfl) ?_
      refine Dr.p 4 rfl rfl (by kernel_rfl) (ev_assign rfl) ?_
      refine Dr.done (by kernel_rfl) ?_
      refine At.then ?_
      refine At.ret ?_
      refine At.thenRet ?_
      exact At.res3 [_] rfl (Res.cellN (vs := [.int .i64 0, .slice none 0 0]) rfl rfl rfl rfl (rowAll rfl)) (Res.tmp rfl) (Res.tmp rfl) (.inr ⟨1, e, FK.dec_of_err hT.symm, by omega, rfl, rfl⟩) (Ent.drop.trans (Ent.drop.trans (Ent.cons (Ent.drop.trans (Ent.drop.trans (dropApp _))))))
    ·
      obtain ⟨q, rfl⟩ : ∃ q, s = .ok q := by
        cases s with
        | error e => exact absurd ⟨e, rfl⟩ hs
        | ok q => exact ⟨q, rfl⟩
      obtain ⟨hq, ⟨hnn0, hnn1⟩, hsm⟩ := hfine q rfl
      have hflow : FK.rdFlow bs 0 = .ok (⟨dl, ns⟩, q) := by
        have hk : nn.toNat - i = 0 := by
          rw [e34, e27] at c34
          simp [isBad] at c34
          omega
        rw [hk] at hT
        exact hT.symm
      refine At.region ?_
      refine L.mv rfl rfl ?_
      refine L.nc rfl rfl ?_
      refine L.fa 2 rfl rfl rfl ?_
      refine L.val rfl (ev_load1 rfl rfl) (rmem.bad .head) ?_
      refine L.nil ?_
      refine At.then ?_
      refine At.condF rfl ?_
      refine At.skip ?_
      refine At.then ?_
      refine At.seq ?_
      refine At.seq ?_
      refine At.region ?_
      refine L.mv rfl rfl ?_
      refine L.nc rfl rfl ?_
      refine L.fa 1 rfl rfl rfl ?_
      refine L.val rfl (ev_load1 rfl rfl) (rmem.place .head) ?_
      refine L.mv rfl rfl ?_
      refine L.pure rfl (ev_lenS rfl rfl) ?_
      refine L.pure rfl (ev_lss rfl rfl rfl) ?_
      refine L.nil ?_
      refine At.then ?_
      refine At.condD rfl (fun c96 => ?_) (fun c96 => ?_)
      ·
        refine At.seq ?_
        refine Dr.start rfl ?_
        refine Dr.p 0 rfl rfl (by kernel_rfl) (ev_build (ps := []) (vs := []) (cs := #[.int .i64 0, .slice none 0 0]) rfl rfl rfl rfl rfl) ?_
        refine Dr.p 1 rfl rfl (by kernel_rfl) (ev_move rfl) ?_
        refine Dr.p 2 rfl rfl (by kernel_rfl) (ev_nil rfl) ?_
        refine Dr.p 3 rfl rfl (by kernel_rfl) (ev_field (off := 1) rfl rfl) ?_
        refine Dr.ld 4 rfl rfl (by kernel_rfl) (ev_load1 rfl rfl) (rmem.place .head) ?_
        refine Dr.run 5 rfl rfl (by kernel_rfl) (o_storeN rfl (m := 2) (vs := [.int .i64 0, .slice none 0 0]) rfl rfl rfl rfl (by simp [Value.oneCell']) (by simp) ?_)
        refine Dr.kept [true] (by kernel_rfl) (Kept.cons (rmem.place (.tail (.head))) Kept.nil) ?_
        refine Dr.p 6 rfl rfl (by kernel_rfl) (ev_assign rfl) ?_
        refine Dr.p 7 rfl rfl (by kernel_rfl) (ev_assign rfl) ?_
        refine Dr.done (by kernel_rfl) ?_
        refine At.then ?_
        refine At.ret ?_
        refine At.thenRet ?_
        exact At.res3 [_] rfl (Res.cellN (vs := [.int .i64 0, .slice none 0 0]) rfl rfl rfl rfl (rowAll rfl)) (Res.tmp rfl) (Res.tmp rfl) (.inr ⟨1, q, dec_more hflow (by omega), by omega, rfl, rfl⟩) (Ent.drop.trans (Ent.drop.trans (Ent.cons (Ent.drop.trans (Ent.drop.trans (dropApp _))))))
      ·
        refine At.skip ?_
        refine At.then ?_
        refine At.seq ?_
        refine At.ent (dec_close hvs) ?_
        refine At.region ?_
        refine L.val rfl (ev_loadN (vs := [.int .i64 dl, .slice A9 ns.length c9]) rfl rfl rfl rfl) (rowAll rfl) ?_
        refine L.op rfl (o_give rfl rfl rfl hE (refCheck_gives ⟨dl, ns⟩ A9 c9) (nodesOwn.at .head fun nd hnd => (hsm nd hnd).i64) ?_)
        rintro v m ⟨rfl, rfl⟩
        refine At.app0 ?_
        refine L.mv rfl rfl ?_
        refine L.ex rfl rfl rfl ?_
        refine L.ex rfl rfl rfl ?_
        refine L.as rfl rfl ?_
        refine L.as rfl rfl ?_
        refine L.nil ?_
        refine At.then ?_
        refine At.seq ?_
        refine At.seq ?_
        refine At.region ?_
        refine L.mv rfl rfl ?_
        refine L.pure rfl (ev_neq rfl rfl rfl) ?_
        refine L.nil ?_
        refine At.then ?_
        refine At.condD rfl (fun c108 => ?_) (fun c108 => ?_)
        ·
          refine At.seq ?_
          refine At.region ?_
          refine L.pure rfl (ev_build (ps := []) (vs := []) (cs := #[.int .i64 0, .slice none 0 0]) rfl rfl rfl rfl rfl) ?_
          refine L.mv rfl rfl ?_
          refine L.mv rfl rfl ?_
          refine L.op rfl (o_storeN rfl (m := 2) (vs := [.int .i64 0, .slice none 0 0]) rfl rfl rfl rfl (by simp [Value.oneCell']) (by simp) ?_)
          refine L.as rfl rfl ?_
          refine L.as rfl rfl ?_
          refine L.nil ?_
          refine At.then ?_
          refine At.ret ?_
          refine At.thenRet ?_
          exact At.res3 [_] rfl (Res.cellN (vs := [.int .i64 0, .slice none 0 0]) rfl rfl rfl rfl (rowAll rfl)) (Res.tmp rfl) (Res.tmp rfl) (.inr ⟨_, _, dec_chk hflow (by omega) c108, c108, rfl, rfl⟩) (Ent.drop.trans (Ent.drop.trans (Ent.drop.trans (Ent.cons Ent.drop))))
        ·
          refine At.skip ?_
          refine At.then ?_
          refine At.seq ?_
          refine At.region ?_
          refine L.val rfl (ev_loadN (vs := [.int .i64 dl, .slice A9 ns.length c9]) rfl rfl rfl rfl) (rowAll rfl) ?_
          refine L.op rfl (o_storeN rfl (m := 2) (vs := [.int .i64 dl, .slice A9 ns.length c9]) rfl rfl rfl rfl (by simp [Value.oneCell']) (by simp) ?_)
          refine L.as rfl rfl ?_
          refine L.as rfl rfl ?_
          refine L.nil ?_
          refine At.then ?_
          refine At.ret ?_
          exact At.res3 [_, _] rfl (Res.cellN (vs := [.int .i64 dl, .slice A9 ns.length c9]) rfl rfl rfl rfl (rowAll rfl)) (Res.tmp rfl) (Res.tmp rfl) (.inl ⟨⟨dl, ns⟩, A9, c9, dec_good hflow (by omega) (by omega), hsm, rfl, rfl⟩) (Ent.drop.trans (Ent.cons (Ent.drop.trans (Ent.cons Ent.drop))))
end Go.Proofs.YtagkobkmaigfcaaDoor
