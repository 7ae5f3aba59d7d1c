/- flowkeeperkeep's meets, over a base and a log. -/
import Derived.Test.YtkckgjpkkbkkgaaGreatDoorCoK
import Derived.Test.YtkckgjpkkbkkgaaGreatDoorCoI
import Derived.Test.YtkckgjpkkbkkgaaGreatDoorCoD
set_option maxHeartbeats 10000000
set_option maxRecDepth 20000
namespace FK
theorem Gf {α:Type} {l m:List α} (h:∀a∈l,a∈m) (x:α):∀a∈l++[x],a∈m++[x]:=λa E=>by
 rcases List.mem_append.1 E with E|E
 · exact List.mem_append_left _<|h a E
 · exact List.mem_append_right _ E
end FK
namespace Go.Y
open Go.Proofs
open Go Go.RowKit Go.SL
section
variable {l:List (List UInt8)} {ts:List FK.Hd} {rds:List Nat} {σ:FK.Dsk} {B S:FK.En} {R:FK.Rn}
theorem _root_.FK.CpSt.roomy {F:FK.Flow} {n:Nat} {i:Nat} (h:FK.CpSt F n B l S R rds ts σ i) (hi:i<=1000):Roomy σ:=by
 obtain⟨E,I⟩:=h.kb.vols (h.smal hi);have h3:=h.kb.quiet.pend;refine⟨ai,?_,by rw[h3];simp⟩;rw[h3];show _+0<=_;omega
theorem yU {w h f e j d K:Nat} {p:EA} {dl kind N kept:Int} {ns:List FK.Node} {A:Option Addr} {c i:Nat} {tv rv yv iv jv:Value} {I:List FK.Hd} {ys:List Int}
 (hH:FK.CpSt ⟨dl,ns⟩ K B l S R rds ts σ i) (LB:K<400) (d7:∀a∈I,a∈ts) (MX:I.length<=i) (MY:ys.length=ns.length) (Mu:∀y∈ys,y=0) (hi:i<=400) (LP:i64 kind) (hN:i64 N) :
 eh 7 [aX w,.agg #[.int .i64 kind,.int .i64 N,.int .i64 kept]] (cd h f e j d p S ⟨K,false,0⟩ σ++[dD w h dl (.slice A ns.length c) 2 tv rv yv 2 R.state iv jv,row 78 4 tv I.length (bO I),cM rv rds,aU yv ys,aU iv (R.Lv.map (·.state)),aU jv (R.Lv.map (·.Lu)),nodesOwn (.slice A ns.length c) ns])
  λv m=>∃b,v=.bool b/\∃f' e' j' p' S' R' l' LL ts' LF L6 L7 σ',FK.CpSt ⟨dl,ns⟩ K B l' S' R' LL ts' σ' (i+1)/\(∀a∈LF,a∈ts')/\LF.length<=i+1/\m=cd h f' e' j' d p' S' ⟨K,false,0⟩ σ'++[dD w h dl (.slice A ns.length c) 2 L6 L7 yv 2 R.state iv jv,row 78 4 L6 LF.length (bO LF),cM L7 LL,aU yv ys,aU iv (R.Lv.map (·.state)),aU jv (R.Lv.map (·.Lu)),nodesOwn (.slice A ns.length c) ns]:=by
 have hL:=hH.sec.lone;have LJ:=hL.ok.run 2 R hL.get;have MR:R.Lv.length=ns.length:=by rw[LJ.len,hL.fl]
 have LO:FK.Fit ⟨dl,ns⟩:=by have:=LJ.fl;rwa [hL.fl] at this
 have Nb:ns.length<=12:=LO.head.2.2;have Nc:1<=ns.length:=LO.head.2.1;have d8:(R.Lv.map (·.state)).length=R.Lv.length:=by rw[List.length_map]
 have d9:(R.Lv.map (·.Lu)).length=R.Lv.length:=by rw[List.length_map]
 have mt:ys.length=R.Lv.length:=ai;have Nd:rds.length=ns.length:=hH.rl;have f1:=hH.few.sets;have f2:=hH.few.ends;have f3:=hH.few.tok;have f4:=hH.few.now;have f9:=hH.roomy ai;have d6:=hH.kb.quiet;refine bz Tryz.func7 Z λE fr hE=>al (l':=bN h d f::dT f e j::aG e p S::aM j d ⟨K,false,0⟩::ar d σ::dD w h dl (.slice A ns.length c) 2 tv rv yv 2 R.state iv jv::row 78 4 tv I.length (bO I)::cM rv rds::aU yv ys::aU iv (R.Lv.map (·.state))::aU jv (R.Lv.map (·.Lu))::nodesOwn (.slice A ns.length c) ns::fr) aN ?_;refine aI De ?_;rintro Aq cq rfl Mf Mg-M4 -
 refine aI Dd ?_;rintro Ar T rfl MA MB - - -
 obtain⟨O,rfl⟩:∃g,Ar=some ⟨g,0,none⟩:=by
  cases Ar with
  | none=>have:=(MA rfl).1;omega
  | some ad=>obtain⟨g,rfl⟩:=MB ad rfl;exact⟨g,rfl⟩
 refine aI Iy ?_;intro Ay cy Mh Mi MC _ _ _;rw[mt] at Mh Mi;subst Mh;obtain⟨Y,rfl⟩:∃g,Ay=some ⟨g,0,none⟩:=by
  cases Ay with
  | none=>have:=(Mi rfl).1;omega
  | some ad=>obtain⟨g,rfl⟩:=MC ad rfl;exact⟨g,rfl⟩
 refine aI pA ?_;intro Ai ci Mj Mk MD _ _ _;rw[d8] at Mj Mk;subst Mj;obtain⟨gi,rfl⟩:∃g,Ai=some ⟨g,0,none⟩:=by
  cases Ai with
  | none=>have:=(Mk rfl).1;omega
  | some ad=>obtain⟨g,rfl⟩:=MD ad rfl;exact⟨g,rfl⟩
 refine aI (.tail pA) ?_;intro Aj cj Ml Mm ME _ _ _;rw[d9] at Ml Mm;subst Ml;obtain⟨gj,rfl⟩:∃g,Aj=some ⟨g,0,none⟩:=by
  cases Aj with
  | none=>have:=(Mm rfl).1;omega
  | some ad=>obtain⟨g,rfl⟩:=ME ad rfl;exact⟨g,rfl⟩
 refine al (l':=bN h d f::dT f e j::aG e p S::aM j d ⟨K,false,0⟩::ar d σ::dD w h dl (.slice A ns.length c) 2 (.slice Aq I.length cq) (.slice (some ⟨O,0,none⟩) rds.length T) (.slice (some ⟨Y,0,none⟩) R.Lv.length cy) 2 R.state (.slice (some ⟨gi,0,none⟩) R.Lv.length ci) (.slice (some ⟨gj,0,none⟩) R.Lv.length cj)::row 78 4 (.slice Aq I.length cq) I.length (bO I)::row 30 1 (.slice (some ⟨O,0,none⟩) rds.length T) rds.length (eD rds)::row 3 1 (.slice (some ⟨Y,0,none⟩) R.Lv.length cy) R.Lv.length (bx ys)::row 3 1 (.slice (some ⟨gi,0,none⟩) R.Lv.length ci) R.Lv.length (bx (R.Lv.map (·.state)))::row 3 1 (.slice (some ⟨gj,0,none⟩) R.Lv.length cj) R.Lv.length (bx (R.Lv.map (·.Lu)))::nodesOwn (.slice A ns.length c) ns::fr) (by show Ent (bN h d f::dT f e j::aG e p S::aM j d ⟨K,false,0⟩::ar d σ::dD w h dl (.slice A ns.length c) 2 (.slice Aq I.length cq) (.slice (some ⟨O,0,none⟩) rds.length T) (.slice (some ⟨Y,0,none⟩) R.Lv.length cy) 2 R.state (.slice (some ⟨gi,0,none⟩) R.Lv.length ci) (.slice (some ⟨gj,0,none⟩) R.Lv.length cj)::row 78 4 (.slice Aq I.length cq) I.length (bO I)::row 30 1 (.slice (some ⟨O,0,none⟩) rds.length T) rds.length (eD rds)::row 3 1 _ ys.length _::row 3 1 _ (R.Lv.map (·.state)).length _::row 3 1 _ (R.Lv.map (·.Lu)).length _::nodesOwn (.slice A ns.length c) ns::fr) _;rw[d9,d8,mt];exact aN) ?_;refine sS<|sO (cL Z Z λb3=>(sB Z (sQ ?_)))
 refine al (l':=bN h d f::dT f e j::aG e p S::aM j d ⟨K,false,0⟩::ar d σ::blk b3 43 #[.int .i64 kind,.int .i64 N,.int .i64 kept]::dD w h dl (.slice A ns.length c) 2 (.slice Aq I.length cq) (.slice (some ⟨O,0,none⟩) rds.length T) (.slice (some ⟨Y,0,none⟩) R.Lv.length cy) 2 R.state (.slice (some ⟨gi,0,none⟩) R.Lv.length ci) (.slice (some ⟨gj,0,none⟩) R.Lv.length cj)::row 78 4 (.slice Aq I.length cq) I.length (bO I)::row 30 1 (.slice (some ⟨O,0,none⟩) rds.length T) rds.length (eD rds)::row 3 1 (.slice (some ⟨Y,0,none⟩) R.Lv.length cy) R.Lv.length (bx ys)::row 3 1 (.slice (some ⟨gi,0,none⟩) R.Lv.length ci) R.Lv.length (bx (R.Lv.map (·.state)))::row 3 1 (.slice (some ⟨gj,0,none⟩) R.Lv.length cj) R.Lv.length (bx (R.Lv.map (·.Lu)))::nodesOwn (.slice A ns.length c) ns::fr) (by show Ent (blk b3 43 #[.int .i64 kind,.int .i64 N,.int .i64 kept]::_) _;exact ap) ?_;refine sG<|dS 0 Z Z<|aE Z Z Z Z ?_
 refine bV Z za aN ?_;refine bH<|sM Z<|bG Z Z<|bG Z Z<|sA Z<|sB Z<|sS<|sP (bT (ps:=[]) (vs:=[]) (cs:=(bS 0 0 0 0).toArray) Z Z Z Z Z)<|sO (cX (z:=.agg #[.int .u64 0,.int .i64 0,.int .i64 0,.int .u64 0]) Z λb7=>?_)
 refine sO<|aZ Z (m:=4) (vs:=bS 0 0 0 0) Z Z Z Z fx (by show 0+4<=4;omega) ?_
 refine aD b7 (bS 0 0 0 0).toArray Z ?_;refine al (l':=bN h d f::dT f e j::aG e p S::aM j d ⟨K,false,0⟩::ar d σ::blk b7 78 (bS 0 0 0 0).toArray::blk b3 43 #[.int .i64 kind,.int .i64 N,.int .i64 kept]::dD w h dl (.slice A ns.length c) 2 (.slice Aq I.length cq) (.slice (some ⟨O,0,none⟩) rds.length T) (.slice (some ⟨Y,0,none⟩) R.Lv.length cy) 2 R.state (.slice (some ⟨gi,0,none⟩) R.Lv.length ci) (.slice (some ⟨gj,0,none⟩) R.Lv.length cj)::row 78 4 (.slice Aq I.length cq) I.length (bO I)::row 30 1 (.slice (some ⟨O,0,none⟩) rds.length T) rds.length (eD rds)::row 3 1 (.slice (some ⟨Y,0,none⟩) R.Lv.length cy) R.Lv.length (bx ys)::row 3 1 (.slice (some ⟨gi,0,none⟩) R.Lv.length ci) R.Lv.length (bx (R.Lv.map (·.state)))::row 3 1 (.slice (some ⟨gj,0,none⟩) R.Lv.length cj) R.Lv.length (bx (R.Lv.map (·.Lu)))::nodesOwn (.slice A ns.length c) ns::fr) ap ?_;refine sN ?_;refine sQ<|cT (X:=Nat×FK.Hd) (λx=>[(7,aX b7),(5,aV S.now),(4,.bool false),(3,aX b3),(0,aX w)]) (λx=>bN h d f::dT f e j::aG e p S::aM j d ⟨K,false,0⟩::ar d σ::blk b7 78 (bS x.1 x.2.node x.2.tri x.2.tok).toArray::blk b3 43 #[.int .i64 kind,.int .i64 N,.int .i64 kept]::dD w h dl (.slice A ns.length c) 2 (.slice Aq I.length cq) (.slice (some ⟨O,0,none⟩) rds.length T) (.slice (some ⟨Y,0,none⟩) R.Lv.length cy) 2 R.state (.slice (some ⟨gi,0,none⟩) R.Lv.length ci) (.slice (some ⟨gj,0,none⟩) R.Lv.length cj)::row 78 4 (.slice Aq I.length cq) I.length (bO I)::row 30 1 (.slice (some ⟨O,0,none⟩) rds.length T) rds.length (eD rds)::row 3 1 (.slice (some ⟨Y,0,none⟩) R.Lv.length cy) R.Lv.length (bx ys)::row 3 1 (.slice (some ⟨gi,0,none⟩) R.Lv.length ci) R.Lv.length (bx (R.Lv.map (·.state)))::row 3 1 (.slice (some ⟨gj,0,none⟩) R.Lv.length cj) R.Lv.length (bx (R.Lv.map (·.Lu)))::nodesOwn (.slice A ns.length c) ns::fr) (λx=>x.2∈I\/x.2=⟨0,0,0⟩) ?_ ?_
 ·
  refine sS<|dS 4 Z Z<|aE Z Z Z Z<|sP (bh Z Z)<|sP (eS Z Z Z)<|sN ?_
  refine aA Z (λLY=>?_) λLY=>?_
  ·
   have Mo:0<I.length:=by have:(I.length:Int)>0:=LY;omega
   obtain⟨gt,rfl⟩:∃g,Aq=some ⟨g,0,none⟩:=by
    cases Aq with
    | none=>have:=(Mf rfl).1;omega
    | some ad=>obtain⟨g,rfl⟩:=Mg ad rfl;exact⟨g,rfl⟩
   refine sZ Z<|eI Z Z<|dv 4 Z Z Z<|bZ Z (aF Z) (ag Z)<|cJ Z Z<|dv 4 Z Z Z<|bZ Z (aF Z) (ag Z)<|bF Z (bh Z Z)<|bF Z (cH (r:=((I.length-1:Nat):Int)) Z Z eg)<|bF Z (bL 1 Z)<|bZ Z (aF Z) (ag Z)<|cJ Z Z<|dv 4 Z Z Z<|bZ Z (aF Z) (ag Z)<|bF Z (bh Z Z) ?_
   refine cK 17 Z<|cF Z (eW N I.length hN Mo ai) aN ?_
   rintro v m ⟨kp,rfl,⟨M5,M6⟩,rfl⟩;refine aB ?_;obtain⟨kn,rfl⟩:∃n:Nat,kp=n:=⟨kp.toNat,ai⟩;have Mp:I.length-1-kn<I.length:=ai;obtain⟨a,L8⟩:∃a,I[I.length-1-kn]?=some a:=⟨I[I.length-1-kn],List.getElem?_eq_getElem Mp⟩;refine dK [true,false,true,true] (aa (ag Z) (aa (ag Z) (aa (ag Z) ab)))<|dr 18 Z (cH (r:=((I.length-1-kn:Nat):Int)) Z Z eg)<|bF Z (bp (z:=4) Z Z Z Z Mp) ?_
   refine iJ 20 Z (bR (vs:=bS 2 a.node a.tri a.tok) Z) (mO Iy λj u hj=>by rw[Nat.zero_add];exact rW L8 j u hj) ?_;refine cK 21 Z<|aZ Z (m:=4) (vs:=bS 2 a.node a.tri a.tok) Z Z Z Z fx (by show 0+4<=4;omega) ?_
   exact aD b7 (bS 2 a.node a.tri a.tok).toArray Z<|dK [false,false,false,false] ab<|dE<|bd (2,a) (.inl (du L8)) cf ap
  ·
   exact ah<|bd (0,⟨0,0,0⟩) (.inr Z) cf aN
 rintro⟨rn,a⟩ ha;replace ha:a∈I\/a=⟨0,0,0⟩:=ha;refine al (l':=bN h d f::dT f e j::aG e p S::aM j d ⟨K,false,0⟩::ar d σ::blk b7 78 (bS rn a.node a.tri a.tok).toArray::blk b3 43 #[.int .i64 kind,.int .i64 N,.int .i64 kept]::dD w h dl (.slice A ns.length c) 2 (.slice Aq I.length cq) (.slice (some ⟨O,0,none⟩) rds.length T) (.slice (some ⟨Y,0,none⟩) R.Lv.length cy) 2 R.state (.slice (some ⟨gi,0,none⟩) R.Lv.length ci) (.slice (some ⟨gj,0,none⟩) R.Lv.length cj)::row 78 4 (.slice Aq I.length cq) I.length (bO I)::row 30 1 (.slice (some ⟨O,0,none⟩) rds.length T) rds.length (eD rds)::row 3 1 (.slice (some ⟨Y,0,none⟩) R.Lv.length cy) R.Lv.length (bx ys)::row 3 1 (.slice (some ⟨gi,0,none⟩) R.Lv.length ci) R.Lv.length (bx (R.Lv.map (·.state)))::row 3 1 (.slice (some ⟨gj,0,none⟩) R.Lv.length cj) R.Lv.length (bx (R.Lv.map (·.Lu)))::nodesOwn (.slice A ns.length c) ns::fr) aN ?_;refine sQ<|cT (X:=Bool) (λx=>[(8,.bool x),(7,aX b7),(5,aV S.now),(4,.bool false),(3,aX b3),(0,aX w)]) (λ_=>bN h d f::dT f e j::aG e p S::aM j d ⟨K,false,0⟩::ar d σ::blk b7 78 (bS rn a.node a.tri a.tok).toArray::blk b3 43 #[.int .i64 kind,.int .i64 N,.int .i64 kept]::dD w h dl (.slice A ns.length c) 2 (.slice Aq I.length cq) (.slice (some ⟨O,0,none⟩) rds.length T) (.slice (some ⟨Y,0,none⟩) R.Lv.length cy) 2 R.state (.slice (some ⟨gi,0,none⟩) R.Lv.length ci) (.slice (some ⟨gj,0,none⟩) R.Lv.length cj)::row 78 4 (.slice Aq I.length cq) I.length (bO I)::row 30 1 (.slice (some ⟨O,0,none⟩) rds.length T) rds.length (eD rds)::row 3 1 (.slice (some ⟨Y,0,none⟩) R.Lv.length cy) R.Lv.length (bx ys)::row 3 1 (.slice (some ⟨gi,0,none⟩) R.Lv.length ci) R.Lv.length (bx (R.Lv.map (·.state)))::row 3 1 (.slice (some ⟨gj,0,none⟩) R.Lv.length cj) R.Lv.length (bx (R.Lv.map (·.Lu)))::nodesOwn (.slice A ns.length c) ns::fr) (λx=>(x=true<->a∈I/\∃s,R.Lv[a.node]?=some s/\s.state=3/\s.Lu=a.tri)) ?_ ?_
 ·
  by_cases HZ:a.tok=0
  ·
   refine sZ Z<|dr 0 Z (bL 3 Z)<|bZ Z (aF Z) (ag Z)<|bF Z (nw Z Z ai)<|cJ Z Z<|eQ 4 Z Z<|eQ 5 Z Z<|eQ 6 Z Z<|eQ 7 Z Z<|eQ 8 Z Z<|eQ 9 Z Z<|eQ 10 Z Z<|eQ 11 Z Z<|eQ 12 Z Z<|eQ 13 Z Z<|bF Z (aS Z Z Z)<|cJ Z Z<|eQ 16 Z Z<|eQ 17 Z Z<|eQ 18 Z Z ?_
   refine eQ 19 Z Z<|eQ 20 Z Z<|eQ 21 Z Z<|eQ 22 Z Z<|eQ 23 Z Z<|eQ 24 Z Z<|eQ 25 Z Z<|eQ 26 Z Z<|eQ 27 Z Z<|bF Z (aS Z Z Z)<|bF Z (aQ Z)<|dE ?_
   refine bd false ?_ cf aN;exact⟨λh=>(by cases h),λ⟨f8,_⟩=>by have:=(hH.seen.tsk.low a (d7 a f8)).1;omega⟩
  ·
   have f8:a∈I:=ha.resolve_right (by rintro rfl;exact HZ rfl);obtain⟨-,s,hs,-⟩:=hH.seen.tsk.at_ a (d7 a f8);have t6:a.node<R.Lv.length:=(gfGet.1 hs).1
   by_cases H3:s.state=3
   ·
    by_cases HT:s.Lu=a.tri
    ·
     refine sZ Z<|dr 0 Z (bL 3 Z)<|bZ Z (aF Z) (ag Z)<|bF Z (nu Z Z ai)<|cJ Z Z<|em 4 Z (bn Z)<|em 5 Z (cv Z)<|em 6 Z (bL 7 Z)<|em 7 Z (bL 2 Z)<|kU 8 Z (aF Z) (ag Z)<|em 9 Z (bL 1 Z)<|kU 10 Z (aF Z) (ag Z)<|em 11 Z (bp (z:=1) Z Z Z Z t6)<|kU 12 Z (aF (v:=.int .i64 s.state) Z) (fg (.tail (.tail pA)) (vM hs))<|em 13 Z (nx Z Z H3)<|bF Z (aS Z Z Z)<|cJ Z Z<|em 16 Z (bn Z)<|em 17 Z (cv Z)<|em 18 Z (bL 7 Z) ?_
     refine em 19 Z (bL 3 Z)<|kU 20 Z (aF Z) (ag Z)<|em 21 Z (bL 1 Z)<|kU 22 Z (aF Z) (ag Z)<|em 23 Z (bp (z:=1) Z Z Z Z t6)<|kU 24 Z (aF (v:=.int .i64 s.Lu) Z) (fg (.tail (.tail (.tail pA))) (Fs hs))<|em 25 Z (bL 2 Z)<|kU 26 Z (aF Z) (ag Z)<|em 27 Z (nx Z Z HT)<|bF Z (aS Z Z Z)<|bF Z (aQ Z)<|dE ?_
     exact bd true ⟨λ_=>⟨f8,s,hs,H3,HT⟩,λ_=>rfl⟩ cf aN
    ·
     refine sZ Z<|dr 0 Z (bL 3 Z)<|bZ Z (aF Z) (ag Z)<|bF Z (nu Z Z ai)<|cJ Z Z<|em 4 Z (bn Z)<|em 5 Z (cv Z)<|em 6 Z (bL 7 Z)<|em 7 Z (bL 2 Z)<|kU 8 Z (aF Z) (ag Z)<|em 9 Z (bL 1 Z)<|kU 10 Z (aF Z) (ag Z)<|em 11 Z (bp (z:=1) Z Z Z Z t6)<|kU 12 Z (aF (v:=.int .i64 s.state) Z) (fg (.tail (.tail pA)) (vM hs))<|em 13 Z (nx Z Z H3)<|bF Z (aS Z Z Z)<|cJ Z Z<|em 16 Z (bn Z)<|em 17 Z (cv Z)<|em 18 Z (bL 7 Z) ?_
     refine em 19 Z (bL 3 Z)<|kU 20 Z (aF Z) (ag Z)<|em 21 Z (bL 1 Z)<|kU 22 Z (aF Z) (ag Z)<|em 23 Z (bp (z:=1) Z Z Z Z t6)<|kU 24 Z (aF (v:=.int .i64 s.Lu) Z) (fg (.tail (.tail (.tail pA))) (Fs hs))<|em 25 Z (bL 2 Z)<|kU 26 Z (aF Z) (ag Z)<|em 27 Z (rq Z Z HT)<|bF Z (aS Z Z Z)<|bF Z (aQ Z)<|dE ?_
     refine bd false ?_ cf aN;exact⟨λh=>(by cases h),λ⟨_,s2,Fd,_,Mw⟩=>by rw[hs] at Fd;injection Fd with Fd;subst Fd;exact absurd Mw HT⟩
   ·
    refine sZ Z<|dr 0 Z (bL 3 Z)<|bZ Z (aF Z) (ag Z)<|bF Z (nu Z Z ai)<|cJ Z Z<|em 4 Z (bn Z)<|em 5 Z (cv Z)<|em 6 Z (bL 7 Z)<|em 7 Z (bL 2 Z)<|kU 8 Z (aF Z) (ag Z)<|em 9 Z (bL 1 Z)<|kU 10 Z (aF Z) (ag Z)<|em 11 Z (bp (z:=1) Z Z Z Z t6)<|kU 12 Z (aF (v:=.int .i64 s.state) Z) (fg (.tail (.tail pA)) (vM hs))<|em 13 Z (rq Z Z H3)<|bF Z (aS Z Z Z)<|cJ Z Z<|eQ 16 Z Z<|eQ 17 Z Z<|eQ 18 Z Z ?_
    refine eQ 19 Z Z<|eQ 20 Z Z<|eQ 21 Z Z<|eQ 22 Z Z<|eQ 23 Z Z<|eQ 24 Z Z<|eQ 25 Z Z<|eQ 26 Z Z<|eQ 27 Z Z<|bF Z (aS Z Z Z)<|bF Z (aQ Z)<|dE ?_
    refine bd false ?_ cf aN;exact⟨λh=>(by cases h),λ⟨_,s2,Fd,h3,_⟩=>by rw[hs] at Fd;injection Fd with Fd;subst Fd;exact absurd h3 H3⟩
 intro wk LH;refine sQ<|sS<|bX 0 Z<|aE Z Z Z Z ?_
 refine ch Z (eW kind 6 LP ai ai) aN ?_;rintro v m ⟨kq,rfl,⟨M7,M8⟩,rfl⟩;refine aB ?_;have wf:a.tok<18446744073709551616:=by
  rcases ha with f8|rfl
  · have:=(hH.seen.tsk.low a (d7 a f8)).2;omega
  · decide
 have LV:wk=false->S.Ly.any (·.1==a.tok)=false:=λhw=>by
  rcases ha with f8|rfl
  · obtain⟨-,s,hs,-⟩:=hH.seen.tsk.at_ a (d7 a f8)
    have Mq:=hH.seen.tsk.works hL (d7 a f8) hs;cases hb:S.Ly.any (·.1==a.tok) with
    | false=>rfl
    | true=>
     obtain⟨h3,ht⟩:=Mq.2 hb;have:=LH.2 ⟨f8,s,hs,h3,ht⟩;rw[hw] at this;cases this
  · cases hb:S.Ly.any (·.1==0) with
    | false=>rfl
    | true=>
     obtain⟨x,hx,e⟩:=List.any_eq_true.1 hb;have:=(hL.ok.tlow x hx).1;have e:x.1=0:=by simpa using e
     omega
 refine sN<|aj<|sQ ?_
 by_cases HK:kq=0
 ·
  by_cases HQ:S.Lx=[]
  ·
   refine sG<|sP (nx Z Z HK)<|sB Z<|aO Z ?_
   refine sQ<|cT (X:=Nat) (λx=>[(11,.int .i64 0),(10,.bool false),(9,aX x),(4,.bool false),(0,aX w)]) (λx=>bN h d f::dT f e j::aG e p S::aM j d ⟨K,false,0⟩::ar d σ::blk x 78 (bS 0 0 0 0).toArray::dD w h dl (.slice A ns.length c) 2 (.slice Aq I.length cq) (.slice (some ⟨O,0,none⟩) rds.length T) (.slice (some ⟨Y,0,none⟩) R.Lv.length cy) 2 R.state (.slice (some ⟨gi,0,none⟩) R.Lv.length ci) (.slice (some ⟨gj,0,none⟩) R.Lv.length cj)::row 78 4 (.slice Aq I.length cq) I.length (bO I)::row 30 1 (.slice (some ⟨O,0,none⟩) rds.length T) rds.length (eD rds)::row 3 1 (.slice (some ⟨Y,0,none⟩) R.Lv.length cy) R.Lv.length (bx ys)::row 3 1 (.slice (some ⟨gi,0,none⟩) R.Lv.length ci) R.Lv.length (bx (R.Lv.map (·.state)))::row 3 1 (.slice (some ⟨gj,0,none⟩) R.Lv.length cj) R.Lv.length (bx (R.Lv.map (·.Lu)))::nodesOwn (.slice A ns.length c) ns::fr) (λ_=>True) ?_ ?_
   ·
    refine sZ Z<|eI Z Z<|dv 0 Z Z Z<|bZ Z (aF Z) (ag Z) ?_
    refine fo 4 10 Z Z Z Z eP (cF Z eB aN ?_) (cX (z:=.agg #[.int .u64 0,.int .i64 0,.int .i64 0,.int .u64 0]) Z λb9=>?_)
    ·
     rintro v m ⟨rfl,rfl⟩;refine aB<|dK [true] (aa (ag Z) ab) ?_
     refine fo 5 10 Z Z Z Z eP (cF Z (ld d6 HQ) (by first|exact Ent.refl _|exact jj) ?_) (cX (z:=.agg #[.int .u64 0,.int .i64 0,.int .i64 0,.int .u64 0]) Z λb9=>?_)
     ·
      rintro v m ⟨rfl,rfl⟩;refine bH<|dK [false] ab<|dr 6 Z (bn Z)<|bF Z (bA Z Z)<|bF Z (bA Z Z)<|bF Z (bA Z Z)<|tV Z (cX (z:=.agg #[.int .u64 0,.int .i64 0,.int .i64 0,.int .u64 0]) Z λb9=>(dK [] ab ?_))
      refine cK 11 Z<|aZ Z (m:=4) (vs:=bS 0 0 0 0) Z Z Z Z fx (by show 0+4<=4;omega) ?_
      exact aD b9 (bS 0 0 0 0).toArray Z<|dK [] ab<|dr 12 Z (aQ Z)<|bF Z (aQ Z)<|dE<|bd b9 trivial cf ap
     ·
      refine dK [true] (aa (ag Z) ab) ?_;refine cK 5 Z<|cF Z (ld d6 HQ) (by first|exact Ent.refl _|exact jj) ?_
      rintro v m ⟨rfl,rfl⟩;refine bH<|dK [false] ab<|dr 6 Z (bn Z)<|bF Z (bA Z Z)<|bF Z (bA Z Z)<|bF Z (bA Z Z) ?_
      refine cK 11 Z<|aZ Z (m:=4) (vs:=bS 0 0 0 0) Z Z Z Z fx (by show 0+4<=4;omega) ?_
      exact aD b9 (bS 0 0 0 0).toArray Z<|dK [] ab<|dr 12 Z (aQ Z)<|bF Z (aQ Z)<|dE<|bd b9 trivial cf ap
    ·
     refine dK [true] (aa (ag Z) ab) ?_;refine cK 4 Z<|cF Z eB aN ?_
     rintro v m ⟨rfl,rfl⟩;refine aB<|dK [true] (aa (ag Z) ab) ?_
     refine cK 5 Z<|cF Z (ld d6 HQ) (by first|exact Ent.refl _|exact jj) ?_
     rintro v m ⟨rfl,rfl⟩;refine bH<|dK [false] ab<|dr 6 Z (bn Z)<|bF Z (bA Z Z)<|bF Z (bA Z Z)<|bF Z (bA Z Z) ?_
     refine cK 11 Z<|aZ Z (m:=4) (vs:=bS 0 0 0 0) Z Z Z Z fx (by show 0+4<=4;omega) ?_
     exact aD b9 (bS 0 0 0 0).toArray Z<|dK [] ab<|dr 12 Z (aQ Z)<|bF Z (aQ Z)<|dE<|bd b9 trivial cf ap
   rintro b9 -
   refine sQ<|bg Z<|sP (dq (r:=false) Z Z Z)<|sN<|ak Z<|ah<|sT<|sQ<|bg Z<|sP (dp Z Z)<|sN<|aO Z<|sS ?_
   refine sB Z<|an<|aH<|aJ<|aH ?_
   refine aw (cd h f e j d p S ⟨K,false,0⟩ σ++[dD w h dl (.slice A ns.length c) 2 (.slice Aq I.length cq) (.slice (some ⟨O,0,none⟩) rds.length T) (.slice (some ⟨Y,0,none⟩) R.Lv.length cy) 2 R.state (.slice (some ⟨gi,0,none⟩) R.Lv.length ci) (.slice (some ⟨gj,0,none⟩) R.Lv.length cj),row 78 4 (.slice Aq I.length cq) (I).length (bO (I)),cM (.slice (some ⟨O,0,none⟩) rds.length T) (rds),aU (.slice (some ⟨Y,0,none⟩) R.Lv.length cy) ys,aU (.slice (some ⟨gi,0,none⟩) R.Lv.length ci) (R.Lv.map (·.state)),aU (.slice (some ⟨gj,0,none⟩) R.Lv.length cj) (R.Lv.map (·.Lu)),nodesOwn (.slice A ns.length c) ns]) Z Z ⟨true,rfl,f,e,j,p,_,R,_,_,_,_,_,_,_,hH.next,d7,ai,rfl⟩ ?_;show Ent _ (bN h d f::dT f e j::aG e p S::aM j d ⟨K,false,0⟩::ar d σ::dD w h dl (.slice A ns.length c) 2 (.slice Aq I.length cq) (.slice (some ⟨O,0,none⟩) rds.length T) (.slice (some ⟨Y,0,none⟩) R.Lv.length cy) 2 R.state (.slice (some ⟨gi,0,none⟩) R.Lv.length ci) (.slice (some ⟨gj,0,none⟩) R.Lv.length cj)::row 78 4 (.slice Aq I.length cq) (I).length (bO (I))::row 30 1 (.slice (some ⟨O,0,none⟩) rds.length T) (rds).length (eD (rds))::row 3 1 (.slice (some ⟨Y,0,none⟩) R.Lv.length cy) ys.length (bx ys)::row 3 1 (.slice (some ⟨gi,0,none⟩) R.Lv.length ci) (R.Lv.map (·.state)).length (bx (R.Lv.map (·.state)))::row 3 1 (.slice (some ⟨gj,0,none⟩) R.Lv.length cj) (R.Lv.map (·.Lu)).length (bx (R.Lv.map (·.Lu)))::nodesOwn (.slice A ns.length c) ns::fr);rw[d9,d8,mt];exact ap
  ·
   obtain⟨hd,q,hq⟩:∃hd q,S.Lx=hd::q:=by
    cases hVq:S.Lx with
    | nil=>exact absurd hVq HQ
    | cons a b=>exact⟨a,b,rfl⟩
   obtain⟨kk,s,n,rfl,hs,h2,MZ,MN,LC⟩:=hL.head hq;obtain⟨-,-,LM,LG,-⟩:=hH.seen.poll hq hs h2 LC;have t7:=hH.poll ai LB hq hs h2 LC;have t6:kk<R.Lv.length:=(gfGet.1 hs).1;have Mr:kk<rds.length:=ai;have Ms:kk<ys.length:=ai;obtain⟨yk,LQ⟩:∃y,ys[kk]?=some y:=⟨ys[kk]'(Ms),List.getElem?_eq_getElem Ms⟩;obtain rfl:=Mu yk (du LQ);obtain⟨rk,L9⟩:∃rk,rds[kk]?=some rk:=⟨rds[kk],List.getElem?_eq_getElem Mr⟩;have MS:rk<=S.now:=by simp only[List.getD_eq_getElem?_getD,L9] at LM;exact LM
   obtain⟨_,Ma,LD⟩:=hL.ok.node hL.get hs;have MT:=LD.tr0;have MU:=LD.trb;have MV:=((LJ.fl).Lw kk _ (FK.cB Ma) Ma).1.2.1;refine sG<|sP (nx Z Z HK)<|sB Z<|aO Z ?_
   refine sQ<|cT (X:=Nat) (λx=>[(11,.int .i64 0),(10,.bool true),(9,aX x),(5,aV S.now),(4,.bool false),(0,aX w)]) (λx=>bN h d f::dT f e j::aG e p (S.hand ⟨2,(kk:Int),0⟩ q R s n)::aM j d ⟨K,false,0⟩::ar d (cC σ ⟨K,false,0⟩ 2 0)::blk x 78 (bS 2 kk (s.Lu+1) (S.Ls+1)).toArray::dD w h dl (.slice A ns.length c) 2 (.slice Aq I.length cq) (.slice (some ⟨O,0,none⟩) rds.length T) (.slice (some ⟨Y,0,none⟩) R.Lv.length cy) 2 R.state (.slice (some ⟨gi,0,none⟩) R.Lv.length ci) (.slice (some ⟨gj,0,none⟩) R.Lv.length cj)::row 78 4 (.slice Aq I.length cq) I.length (bO I)::row 30 1 (.slice (some ⟨O,0,none⟩) rds.length T) rds.length (eD rds)::row 3 1 (.slice (some ⟨Y,0,none⟩) R.Lv.length cy) R.Lv.length (bx ys)::row 3 1 (.slice (some ⟨gi,0,none⟩) R.Lv.length ci) R.Lv.length (bx (R.Lv.map (·.state)))::row 3 1 (.slice (some ⟨gj,0,none⟩) R.Lv.length cj) R.Lv.length (bx (R.Lv.map (·.Lu)))::nodesOwn (.slice A ns.length c) ns::fr) (λ_=>True) ?_ ?_
   ·
    refine sZ Z<|eI Z Z<|dv 0 Z Z Z<|bZ Z (aF Z) (ag Z) ?_
    refine fo 4 10 Z Z Z Z eP (cF Z eB aN ?_) (cX (z:=.agg #[.int .u64 0,.int .i64 0,.int .i64 0,.int .u64 0]) Z λb9=>?_)
    ·
     rintro v m ⟨rfl,rfl⟩;refine aB<|dK [true] (aa (ag Z) ab) ?_
     refine fo 5 10 Z Z Z Z eP (cF Z (i6 (J:=⟨K,false,0⟩) hL.ok (by show K<1000000;omega) Z f9 d6 hq hL.get hs LC ai ai) (by first|exact Ent.refl _|exact jj) ?_) (cX (z:=.agg #[.int .u64 0,.int .i64 0,.int .i64 0,.int .u64 0]) Z λb9=>?_)
     ·
      rintro v m ⟨rfl,rfl⟩;refine bH<|dK [false] ab<|dr 6 Z (bn Z)<|bF Z (bA Z Z)<|bF Z (bA Z Z)<|bF Z (bA Z Z)<|tV Z (cX (z:=.agg #[.int .u64 0,.int .i64 0,.int .i64 0,.int .u64 0]) Z λb9=>(dK [] ab ?_))
      refine cK 11 Z<|aZ Z (m:=4) (vs:=bS 2 kk (s.Lu+1) (S.Ls+1)) Z Z Z Z fx (by show 0+4<=4;omega) ?_
      exact aD b9 (bS 2 kk (s.Lu+1) (S.Ls+1)).toArray Z<|dK [] ab<|dr 12 Z (aQ Z)<|bF Z (aQ Z)<|dE<|bd b9 trivial cf ap
     ·
      refine dK [true] (aa (ag Z) ab) ?_;refine cK 5 Z<|cF Z (i6 (J:=⟨K,false,0⟩) hL.ok (by show K<1000000;omega) Z f9 d6 hq hL.get hs LC ai ai) (by first|exact Ent.refl _|exact jj) ?_
      rintro v m ⟨rfl,rfl⟩;refine bH<|dK [false] ab<|dr 6 Z (bn Z)<|bF Z (bA Z Z)<|bF Z (bA Z Z)<|bF Z (bA Z Z) ?_
      refine cK 11 Z<|aZ Z (m:=4) (vs:=bS 2 kk (s.Lu+1) (S.Ls+1)) Z Z Z Z fx (by show 0+4<=4;omega) ?_
      exact aD b9 (bS 2 kk (s.Lu+1) (S.Ls+1)).toArray Z<|dK [] ab<|dr 12 Z (aQ Z)<|bF Z (aQ Z)<|dE<|bd b9 trivial cf ap
    ·
     refine dK [true] (aa (ag Z) ab) ?_;refine cK 4 Z<|cF Z eB aN ?_
     rintro v m ⟨rfl,rfl⟩;refine aB<|dK [true] (aa (ag Z) ab) ?_
     refine cK 5 Z<|cF Z (i6 (J:=⟨K,false,0⟩) hL.ok (by show K<1000000;omega) Z f9 d6 hq hL.get hs LC ai ai) (by first|exact Ent.refl _|exact jj) ?_
     rintro v m ⟨rfl,rfl⟩;refine bH<|dK [false] ab<|dr 6 Z (bn Z)<|bF Z (bA Z Z)<|bF Z (bA Z Z)<|bF Z (bA Z Z) ?_
     refine cK 11 Z<|aZ Z (m:=4) (vs:=bS 2 kk (s.Lu+1) (S.Ls+1)) Z Z Z Z fx (by show 0+4<=4;omega) ?_
     exact aD b9 (bS 2 kk (s.Lu+1) (S.Ls+1)).toArray Z<|dK [] ab<|dr 12 Z (aQ Z)<|bF Z (aQ Z)<|dE<|bd b9 trivial cf ap
   rintro b9 -
   refine sQ<|bg Z<|sP (dq (r:=false) Z Z Z)<|sN<|ak Z<|ah<|sT<|sQ<|bg Z<|sP (dp Z Z)<|sN<|ak Z<|ah<|sT ?_
   refine sQ<|sQ ?_
   by_cases HV:s.Lu=0
   ·
    refine sZ Z<|dr 0 Z (bL 0 Z)<|bZ Z (aF Z) (ag Z)<|cJ Z Z<|dv 3 Z Z Z<|bZ Z (aF Z) (ag Z)<|bF Z (dq (r:=false) Z Z cP)<|cJ Z Z<|em 8 Z (bL 1 Z)<|kU 9 Z (aF Z) (ag Z)<|em 10 Z (rp Z Z ai)<|bF Z (aS Z Z Z)<|cJ Z Z<|em 13 Z (bL 1 Z)<|kU 14 Z (aF Z) (ag Z)<|em 15 Z (bn Z)<|em 16 Z (cv Z)<|em 17 Z (bL 1 Z)<|em 18 Z (bL 1 Z) ?_
    refine kU 19 Z (aF Z) (ag Z)<|em 20 Z (bh Z Z)<|em 21 Z (n9 (r:=false) Z Z (Dg ai))<|bF Z (aS Z Z Z)<|cJ Z Z<|em 24 Z (bL 2 Z)<|kU 25 Z (aF Z) (ag Z)<|em 26 Z (bn Z)<|em 27 Z (cv Z)<|em 28 Z (bL 6 Z)<|kU 29 Z (aF Z) (ag Z)<|em 30 Z (bL 1 Z)<|kU 31 Z (aF Z) (ag Z)<|em 32 Z (bp (z:=1) Z Z Z Z t6)<|kU 33 Z (aF (v:=.int .i64 0) Z) (fg pA (CF LQ))<|em 34 Z (aT (r:=1) Z Z Z)<|em 35 Z (dq (r:=false) Z Z (by rw[HV];rfl))<|bF Z (aS Z Z Z)<|cJ Z Z<|em 38 Z (bn Z) ?_
    refine em 39 Z (bn Z)<|em 40 Z (cv Z)<|em 41 Z (bL 5 Z)<|kU 42 Z (aF Z) (ag Z)<|em 43 Z (bL 1 Z)<|kU 44 Z (aF Z) (ag Z)<|em 45 Z (bp (z:=1) Z Z Z Z Mr)<|kU 46 Z (aF (v:=aV rk) Z) (fg Iy (Jg L9))<|em 47 Z (rp Z Z ai)<|bF Z (aS Z Z Z)<|cJ Z Z<|em 50 Z (bn Z)<|em 51 Z (cv Z)<|em 52 Z (bL 7 Z)<|em 53 Z (bL 2 Z)<|kU 54 Z (aF Z) (ag Z)<|em 55 Z (bL 1 Z)<|kU 56 Z (aF Z) (ag Z)<|em 57 Z (bp (z:=1) Z Z Z Z t6)<|kU 58 Z (aF (v:=.int .i64 s.state) Z) (fg (.tail pA) (vM hs)) ?_
    refine em 59 Z (dq (r:=false) Z Z (by rw[h2];simp))<|bF Z (aS Z Z Z)<|dE<|sT<|ak Z<|ah<|sT<|sQ<|sS<|sB Z<|aj ?_
    refine aL (X:=Nat) (λx=>[(12,.int .i64 x),(9,aX b9),(4,.bool false),(0,aX w)]) (λx=>bN h d f::dT f e j::aG e p (S.hand ⟨2,(kk:Int),0⟩ q R s n)::aM j d ⟨K,false,0⟩::ar d (cC σ ⟨K,false,0⟩ 2 0)::blk b9 78 (bS 2 kk (s.Lu+1) (S.Ls+1)).toArray::dD w h dl (.slice A ns.length c) 2 (.slice Aq I.length cq) (.slice (some ⟨O,0,none⟩) rds.length T) (.slice (some ⟨Y,0,none⟩) R.Lv.length cy) 2 R.state (.slice (some ⟨gi,0,none⟩) R.Lv.length ci) (.slice (some ⟨gj,0,none⟩) R.Lv.length cj)::row 78 4 (.slice Aq I.length cq) I.length (bO I)::row 30 1 (.slice (some ⟨O,0,none⟩) rds.length T) rds.length (eD rds)::row 3 1 (.slice (some ⟨Y,0,none⟩) R.Lv.length cy) R.Lv.length (bx ys)::row 3 1 (.slice (some ⟨gi,0,none⟩) R.Lv.length ci) R.Lv.length (bx (R.Lv.map (·.state)))::row 3 1 (.slice (some ⟨gj,0,none⟩) R.Lv.length cj) R.Lv.length (bx (R.Lv.map (·.Lu)))::nodesOwn (.slice A ns.length c) ns::fr) (λx=>x<=I.length) (λx=>I.length-x) 0 (Nat.zero_le _) cf aN ?_;intro x hx;refine sQ<|bg Z<|dS 4 Z Z<|aE Z Z Z Z<|sP (bh Z Z)<|sP (bB Z Z Z)<|sN ?_
    refine aA Z (λLK=>?_) λLK=>?_
    ·
     have LW:x<I.length:=by have:(x:Int)<(I.length:Int):=LK;omega
     obtain⟨gt,rfl⟩:∃g,Aq=some ⟨g,0,none⟩:=by
      cases Aq with
      | none=>have:=(Mf rfl).1;omega
      | some ad=>obtain⟨g,rfl⟩:=Mg ad rfl;exact⟨g,rfl⟩
     obtain⟨a2,LN⟩:∃a,I[x]?=some a:=⟨I[x],List.getElem?_eq_getElem LW⟩;have MW:=LG a2 (d7 _ (du LN));refine ah<|sT<|sQ<|aj<|sQ<|sZ Z<|eI Z Z<|dv 4 Z Z Z<|bZ Z (aF Z) (ag Z)<|cJ Z Z<|bF Z (bp (z:=4) Z Z Z Z LW)<|bF Z (bL 3 Z) ?_
     refine iJ 7 Z (aF (v:=aV a2.tok) Z) (fg Dd (by rw[Nat.zero_add];exact rW LN 3 _ Z)) ?_;refine dr 8 Z (bL 3 Z)<|bZ Z (aF Z) (ag Z)<|bF Z (rq Z Z ai)<|dE<|sT<|ak Z<|ah<|am<|sT<|sG<|cG Z (aT (r:=((x+1:Nat):Int)) Z Z eg)<|sA Z<|aq ?_
     exact aC (x+1) LW (by show I.length-(x+1)<I.length-x;omega) cf aN
    ·
     refine aK<|av<|au<|ao<|sT<|sZ Z<|eI Z Z<|cJ Z Z<|dv 4 Z Z Z<|bZ Z (aF Z) (ag Z)<|bZ Z (bR (vs:=bS 2 kk (s.Lu+1) (S.Ls+1)) Z) (aR Z) ?_
     refine cK 6 Z (dB (m:=1) (z:=jR 0 0 0 0) (size:=4) (ps:=[(0,.tmp 190)]) (vs:=[jR 2 kk (s.Lu+1) (S.Ls+1)]) (cs:=(bS 2 kk (s.Lu+1) (S.Ls+1)).toArray) Z Z Z Z ai ai Z (Bz _ _ _ _ 190) λML=>?_);refine dK [false,true] (aa (ag Z) ab) ?_;refine dR 7 rfl rfl (cU rfl rfl Hf rfl ai rfl rfl Iy (news:=bS 2 kk (s.Lu+1) (S.Ls+1)) rfl (λh=>by cases h) (iu (λj u h=>by simpa using h)) fx (by unfold maxLen;omega) ai λMM Mx=>?_);refine aI .head ?_;rintro A9 c9 rfl - - - - -
     refine dK [false] ab<|dr 8 Z (cv Z)<|bF Z (bL 4 Z) ?_
     refine cK 10 Z<|cp Z Z Z Z Z (by show 4<11;decide) ?_
     refine aD w (zN h dl (.slice A ns.length c) 2 (.slice A9 (I.length+1) c9) (.slice (some ⟨O,0,none⟩) rds.length T) (.slice (some ⟨Y,0,none⟩) R.Lv.length cy) 2 R.state (.slice (some ⟨gi,0,none⟩) R.Lv.length ci) (.slice (some ⟨gj,0,none⟩) R.Lv.length cj)).toArray Z<|dK [] ab<|dE<|am<|sT<|sS<|sB Z<|an ?_
     refine aw (cd h f e j d p (S.hand ⟨2,(kk:Int),0⟩ q R s n) ⟨K,false,0⟩ (cC σ ⟨K,false,0⟩ 2 0)++[dD w h dl (.slice A ns.length c) 2 (.slice A9 (I.length+1) c9) (.slice (some ⟨O,0,none⟩) rds.length T) (.slice (some ⟨Y,0,none⟩) R.Lv.length cy) 2 R.state (.slice (some ⟨gi,0,none⟩) R.Lv.length ci) (.slice (some ⟨gj,0,none⟩) R.Lv.length cj),row 78 4 (.slice A9 (I.length+1) c9) (I++[(⟨kk,s.Lu+1,S.Ls+1⟩:FK.Hd)]).length (bO (I++[(⟨kk,s.Lu+1,S.Ls+1⟩:FK.Hd)])),cM (.slice (some ⟨O,0,none⟩) rds.length T) (rds),aU (.slice (some ⟨Y,0,none⟩) R.Lv.length cy) ys,aU (.slice (some ⟨gi,0,none⟩) R.Lv.length ci) (R.Lv.map (·.state)),aU (.slice (some ⟨gj,0,none⟩) R.Lv.length cj) (R.Lv.map (·.Lu)),nodesOwn (.slice A ns.length c) ns]) Z Z ⟨true,rfl,f,e,j,p,_,(R.setS kk ⟨3,s.Lu+1,S.Ls+1⟩),_,_,_,_,_,_,_,t7,(FK.Gf d7 _),(by simp;omega),rfl⟩ ?_;show Ent _ (bN h d f::dT f e j::aG e p (S.hand ⟨2,(kk:Int),0⟩ q R s n)::aM j d ⟨K,false,0⟩::ar d (cC σ ⟨K,false,0⟩ 2 0)::dD w h dl (.slice A ns.length c) 2 (.slice A9 (I.length+1) c9) (.slice (some ⟨O,0,none⟩) rds.length T) (.slice (some ⟨Y,0,none⟩) R.Lv.length cy) 2 R.state (.slice (some ⟨gi,0,none⟩) R.Lv.length ci) (.slice (some ⟨gj,0,none⟩) R.Lv.length cj)::row 78 4 (.slice A9 (I.length+1) c9) (I++[(⟨kk,s.Lu+1,S.Ls+1⟩:FK.Hd)]).length (bO (I++[(⟨kk,s.Lu+1,S.Ls+1⟩:FK.Hd)]))::row 30 1 (.slice (some ⟨O,0,none⟩) rds.length T) (rds).length (eD (rds))::row 3 1 (.slice (some ⟨Y,0,none⟩) R.Lv.length cy) ys.length (bx ys)::row 3 1 (.slice (some ⟨gi,0,none⟩) R.Lv.length ci) (R.Lv.map (·.state)).length (bx (R.Lv.map (·.state)))::row 3 1 (.slice (some ⟨gj,0,none⟩) R.Lv.length cj) (R.Lv.map (·.Lu)).length (bx (R.Lv.map (·.Lu)))::nodesOwn (.slice A ns.length c) ns::fr);rw[d9,d8,mt,ql,show(I++[(⟨kk,s.Lu+1,S.Ls+1⟩:FK.Hd)]).length=I.length+1 by simp];exact ap
   ·
    refine sZ Z<|dr 0 Z (bL 0 Z)<|bZ Z (aF Z) (ag Z)<|cJ Z Z<|dv 3 Z Z Z<|bZ Z (aF Z) (ag Z)<|bF Z (dq (r:=false) Z Z cP)<|cJ Z Z<|em 8 Z (bL 1 Z)<|kU 9 Z (aF Z) (ag Z)<|em 10 Z (rp Z Z ai)<|bF Z (aS Z Z Z)<|cJ Z Z<|em 13 Z (bL 1 Z)<|kU 14 Z (aF Z) (ag Z)<|em 15 Z (bn Z)<|em 16 Z (cv Z)<|em 17 Z (bL 1 Z)<|em 18 Z (bL 1 Z) ?_
    refine kU 19 Z (aF Z) (ag Z)<|em 20 Z (bh Z Z)<|em 21 Z (n9 (r:=false) Z Z (Dg ai))<|bF Z (aS Z Z Z)<|cJ Z Z<|em 24 Z (bL 2 Z)<|kU 25 Z (aF Z) (ag Z)<|em 26 Z (bn Z)<|em 27 Z (cv Z)<|em 28 Z (bL 6 Z)<|kU 29 Z (aF Z) (ag Z)<|em 30 Z (bL 1 Z)<|kU 31 Z (aF Z) (ag Z)<|em 32 Z (bp (z:=1) Z Z Z Z t6)<|kU 33 Z (aF (v:=.int .i64 0) Z) (fg pA (CF LQ))<|em 34 Z (aT (r:=1) Z Z Z)<|em 35 Z (dq (r:=true) Z Z (by simp;omega))<|bF Z (aS Z Z Z)<|cJ Z Z<|eQ 38 Z Z ?_
    refine eQ 39 Z Z<|eQ 40 Z Z<|eQ 41 Z Z<|eQ 42 Z Z<|eQ 43 Z Z<|eQ 44 Z Z<|eQ 45 Z Z<|eQ 46 Z Z<|eQ 47 Z Z<|bF Z (aS Z Z Z)<|cJ Z Z<|eQ 50 Z Z<|eQ 51 Z Z<|eQ 52 Z Z<|eQ 53 Z Z<|eQ 54 Z Z<|eQ 55 Z Z<|eQ 56 Z Z<|eQ 57 Z Z<|eQ 58 Z Z ?_
    refine eQ 59 Z Z<|bF Z (aS Z Z Z)<|dE<|sT<|aO Z<|sS<|sB Z<|an<|aH<|aJ<|aH ?_
    refine aw (cd h f e j d p (S.hand ⟨2,(kk:Int),0⟩ q R s n) ⟨K,false,0⟩ (cC σ ⟨K,false,0⟩ 2 0)++[dD w h dl (.slice A ns.length c) 2 (.slice Aq I.length cq) (.slice (some ⟨O,0,none⟩) rds.length T) (.slice (some ⟨Y,0,none⟩) R.Lv.length cy) 2 R.state (.slice (some ⟨gi,0,none⟩) R.Lv.length ci) (.slice (some ⟨gj,0,none⟩) R.Lv.length cj),row 78 4 (.slice Aq I.length cq) (I).length (bO (I)),cM (.slice (some ⟨O,0,none⟩) rds.length T) (rds),aU (.slice (some ⟨Y,0,none⟩) R.Lv.length cy) ys,aU (.slice (some ⟨gi,0,none⟩) R.Lv.length ci) (R.Lv.map (·.state)),aU (.slice (some ⟨gj,0,none⟩) R.Lv.length cj) (R.Lv.map (·.Lu)),nodesOwn (.slice A ns.length c) ns]) Z Z ⟨false,rfl,f,e,j,p,_,(R.setS kk ⟨3,s.Lu+1,S.Ls+1⟩),_,_,_,_,_,_,_,t7,(λa ha=>List.mem_append_left _ (d7 a ha)),ai,rfl⟩ ?_;show Ent _ (bN h d f::dT f e j::aG e p (S.hand ⟨2,(kk:Int),0⟩ q R s n)::aM j d ⟨K,false,0⟩::ar d (cC σ ⟨K,false,0⟩ 2 0)::dD w h dl (.slice A ns.length c) 2 (.slice Aq I.length cq) (.slice (some ⟨O,0,none⟩) rds.length T) (.slice (some ⟨Y,0,none⟩) R.Lv.length cy) 2 R.state (.slice (some ⟨gi,0,none⟩) R.Lv.length ci) (.slice (some ⟨gj,0,none⟩) R.Lv.length cj)::row 78 4 (.slice Aq I.length cq) (I).length (bO (I))::row 30 1 (.slice (some ⟨O,0,none⟩) rds.length T) (rds).length (eD (rds))::row 3 1 (.slice (some ⟨Y,0,none⟩) R.Lv.length cy) ys.length (bx ys)::row 3 1 (.slice (some ⟨gi,0,none⟩) R.Lv.length ci) (R.Lv.map (·.state)).length (bx (R.Lv.map (·.state)))::row 3 1 (.slice (some ⟨gj,0,none⟩) R.Lv.length cj) (R.Lv.map (·.Lu)).length (bx (R.Lv.map (·.Lu)))::nodesOwn (.slice A ns.length c) ns::fr);rw[d9,d8,mt];exact ap
 ·
  refine sG<|sP (rq Z Z HK)<|sB Z<|ak Z<|sS<|sP (bC Z Z Z)<|sB Z ?_
  refine aA Z (λLZ=>?_) λLZ=>?_
  ·
   refine sQ ?_
   by_cases HW:wk=true
   ·
    subst HW;obtain⟨f8,s,hs,h3,t8⟩:=LH.1 rfl;have f7:=hH.seen.tsk.find hL (d7 a f8) hs h3 t8;have t6:a.node<R.Lv.length:=(gfGet.1 hs).1;obtain⟨nd,hnd,LD⟩:=hL.ok.node hL.get hs;have BT:ns[a.node]?=some nd:=by have:=hnd;rwa [hL.fl] at this
    obtain⟨R2,t7⟩:=hH.complete ai LB wf f7 hs h3;refine sZ Z<|eI Z Z<|dv 0 Z Z Z<|bZ Z (aF Z) (ag Z)<|bF Z (bL 3 Z)<|bZ Z (aF Z) (ag Z) ?_
    refine cK 6 Z<|cF Z eB aN ?_
    rintro v m ⟨rfl,rfl⟩;refine aB<|dK [true,true] (aa (ag Z) (aa (ag Z) ab)) ?_
    refine cK 7 Z<|cF Z (kT (J:=⟨K,false,0⟩) hL.ok wf (by show K<1000000;omega) Z f9 d6 f7 ai) aN ?_
    rintro v m ⟨rfl,rfl⟩;refine bH<|dK [false,false] ab<|dr 8 Z (aQ Z)<|dE<|sT<|bg Z<|cG Z (bC (r:=true) Z Z Z)<|sP (ny (r:=true) Z Z Z Z)<|sM Z<|iC Z<|iC Z<|bQ Z<|bQ Z<|eJ (aS Z Z Z)<|sP (aS Z Z Z)<|sA Z<|aq ?_
    refine sT<|an<|aJ<|aH ?_
    refine aw (cd h f e j d p (S.complete a.tok) ⟨K,false,0⟩ (cC σ ⟨K,false,0⟩ 4 a.tok)++[dD w h dl (.slice A ns.length c) 2 (.slice Aq I.length cq) (.slice (some ⟨O,0,none⟩) rds.length T) (.slice (some ⟨Y,0,none⟩) R.Lv.length cy) 2 R.state (.slice (some ⟨gi,0,none⟩) R.Lv.length ci) (.slice (some ⟨gj,0,none⟩) R.Lv.length cj),row 78 4 (.slice Aq I.length cq) (I).length (bO (I)),cM (.slice (some ⟨O,0,none⟩) rds.length T) (rds),aU (.slice (some ⟨Y,0,none⟩) R.Lv.length cy) ys,aU (.slice (some ⟨gi,0,none⟩) R.Lv.length ci) (R.Lv.map (·.state)),aU (.slice (some ⟨gj,0,none⟩) R.Lv.length cj) (R.Lv.map (·.Lu)),nodesOwn (.slice A ns.length c) ns]) Z Z ⟨true,rfl,f,e,j,p,_,R2,_,_,_,_,_,_,_,t7,d7,ai,rfl⟩ ?_;show Ent _ (bN h d f::dT f e j::aG e p (S.complete a.tok)::aM j d ⟨K,false,0⟩::ar d (cC σ ⟨K,false,0⟩ 4 a.tok)::dD w h dl (.slice A ns.length c) 2 (.slice Aq I.length cq) (.slice (some ⟨O,0,none⟩) rds.length T) (.slice (some ⟨Y,0,none⟩) R.Lv.length cy) 2 R.state (.slice (some ⟨gi,0,none⟩) R.Lv.length ci) (.slice (some ⟨gj,0,none⟩) R.Lv.length cj)::row 78 4 (.slice Aq I.length cq) (I).length (bO (I))::row 30 1 (.slice (some ⟨O,0,none⟩) rds.length T) (rds).length (eD (rds))::row 3 1 (.slice (some ⟨Y,0,none⟩) R.Lv.length cy) ys.length (bx ys)::row 3 1 (.slice (some ⟨gi,0,none⟩) R.Lv.length ci) (R.Lv.map (·.state)).length (bx (R.Lv.map (·.state)))::row 3 1 (.slice (some ⟨gj,0,none⟩) R.Lv.length cj) (R.Lv.map (·.Lu)).length (bx (R.Lv.map (·.Lu)))::nodesOwn (.slice A ns.length c) ns::fr);rw[d9,d8,mt];exact ap
   ·
    obtain rfl:wk=false:=by cases wk with
     | true=>exact absurd rfl HW
     | false=>rfl
    refine sZ Z<|eI Z Z<|dv 0 Z Z Z<|bZ Z (aF Z) (ag Z)<|bF Z (bL 3 Z)<|bZ Z (aF Z) (ag Z) ?_
    refine cK 6 Z<|cF Z eB aN ?_
    rintro v m ⟨rfl,rfl⟩;refine aB<|dK [true,true] (aa (ag Z) (aa (ag Z) ab)) ?_
    refine cK 7 Z<|cF Z (qQ d6 (LV Z)) aN ?_
    rintro v m ⟨rfl,rfl⟩;refine bH<|dK [false,false] ab<|dr 8 Z (aQ Z)<|dE<|sT<|bg Z<|cG Z (bC (r:=false) Z Z Z)<|sP (ny (r:=true) Z Z Z Z)<|sM Z<|iC Z<|iC Z<|iC Z<|eJ (bC (r:=true) Z Z Z)<|eJ (aS Z Z Z)<|sP (aS Z Z Z)<|sA Z<|aq ?_
    refine sT<|an<|aJ<|aH ?_
    refine aw (cd h f e j d p S ⟨K,false,0⟩ σ++[dD w h dl (.slice A ns.length c) 2 (.slice Aq I.length cq) (.slice (some ⟨O,0,none⟩) rds.length T) (.slice (some ⟨Y,0,none⟩) R.Lv.length cy) 2 R.state (.slice (some ⟨gi,0,none⟩) R.Lv.length ci) (.slice (some ⟨gj,0,none⟩) R.Lv.length cj),row 78 4 (.slice Aq I.length cq) (I).length (bO (I)),cM (.slice (some ⟨O,0,none⟩) rds.length T) (rds),aU (.slice (some ⟨Y,0,none⟩) R.Lv.length cy) ys,aU (.slice (some ⟨gi,0,none⟩) R.Lv.length ci) (R.Lv.map (·.state)),aU (.slice (some ⟨gj,0,none⟩) R.Lv.length cj) (R.Lv.map (·.Lu)),nodesOwn (.slice A ns.length c) ns]) Z Z ⟨true,rfl,f,e,j,p,_,R,_,_,_,_,_,_,_,hH.next,d7,ai,rfl⟩ ?_;show Ent _ (bN h d f::dT f e j::aG e p S::aM j d ⟨K,false,0⟩::ar d σ::dD w h dl (.slice A ns.length c) 2 (.slice Aq I.length cq) (.slice (some ⟨O,0,none⟩) rds.length T) (.slice (some ⟨Y,0,none⟩) R.Lv.length cy) 2 R.state (.slice (some ⟨gi,0,none⟩) R.Lv.length ci) (.slice (some ⟨gj,0,none⟩) R.Lv.length cj)::row 78 4 (.slice Aq I.length cq) (I).length (bO (I))::row 30 1 (.slice (some ⟨O,0,none⟩) rds.length T) (rds).length (eD (rds))::row 3 1 (.slice (some ⟨Y,0,none⟩) R.Lv.length cy) ys.length (bx ys)::row 3 1 (.slice (some ⟨gi,0,none⟩) R.Lv.length ci) (R.Lv.map (·.state)).length (bx (R.Lv.map (·.state)))::row 3 1 (.slice (some ⟨gj,0,none⟩) R.Lv.length cj) (R.Lv.map (·.Lu)).length (bx (R.Lv.map (·.Lu)))::nodesOwn (.slice A ns.length c) ns::fr);rw[d9,d8,mt];exact ap
  ·
   refine sS<|sP (bC Z Z Z)<|sB Z ?_
   refine aA Z (λL3=>?_) λL3=>?_
   ·
    refine sQ ?_
    by_cases HW:wk=true
    ·
     subst HW;obtain⟨f8,s,hs,h3,t8⟩:=LH.1 rfl;have f7:=hH.seen.tsk.find hL (d7 a f8) hs h3 t8;have t6:a.node<R.Lv.length:=(gfGet.1 hs).1;obtain⟨nd,hnd,LD⟩:=hL.ok.node hL.get hs;have BT:ns[a.node]?=some nd:=by have:=hnd;rwa [hL.fl] at this
     obtain⟨R2,t7⟩:=hH.fail ai LB wf f7 hs h3 BT;refine sZ Z<|eI Z Z<|dv 0 Z Z Z<|bZ Z (aF Z) (ag Z)<|bF Z (bL 3 Z)<|bZ Z (aF Z) (ag Z) ?_
     refine cK 6 Z<|cF Z eB aN ?_
     rintro v m ⟨rfl,rfl⟩;refine aB<|dK [true,true] (aa (ag Z) (aa (ag Z) ab)) ?_
     refine cK 7 Z<|cF Z (tF (J:=⟨K,false,0⟩) hL.ok wf (by show K<1000000;omega) Z f9 d6 f7 ai ai) aN ?_
     rintro v m ⟨rfl,rfl⟩;refine bH<|dK [false,false] ab<|dr 8 Z (aQ Z)<|dE<|sT<|sQ<|bg Z<|sN<|aO Z<|sQ<|iL (.tail (.tail (.tail (.tail pA)))) ?_
     intro vs LT;refine aI .head ?_;intro A7 c7 LU MF MG MP MQ MH;injection LU with LU _ MI;subst LU;subst MI;obtain⟨gf,rfl⟩:∃g,A=some ⟨g,0,none⟩:=by
      cases A with
      | none=>have:=(MF rfl).1;omega
      | some ad=>obtain⟨g,rfl⟩:=MG ad rfl;exact⟨g,rfl⟩
     have MJ:a.node<ns.length:=ai;obtain⟨u,hu⟩:∃u,vs[a.node]?=some u:=⟨vs[a.node]'ai,by simp⟩;obtain⟨r6,Mz⟩:=tN (If hu BT);refine aI (.tail (Mz.left _)) ?_;rintro A6 c6 rfl - - - - -
     refine al (l':=row 58 7 (.slice (some ⟨gf,0,none⟩) ns.length c) ns.length (bU ns vs)::(ck vs ns++(bN h d f::dT f e j::aG e p (S.fail a.tok)::aM j d ⟨K,false,0⟩::ar d (cC σ ⟨K,false,0⟩ 5 a.tok)::blk b7 78 (bS rn a.node a.tri a.tok).toArray::blk b3 43 #[.int .i64 kind,.int .i64 N,.int .i64 kept]::dD w h dl (.slice (some ⟨gf,0,none⟩) ns.length c) 2 (.slice Aq I.length cq) (.slice (some ⟨O,0,none⟩) rds.length T) (.slice (some ⟨Y,0,none⟩) R.Lv.length cy) 2 R.state (.slice (some ⟨gi,0,none⟩) R.Lv.length ci) (.slice (some ⟨gj,0,none⟩) R.Lv.length cj)::row 78 4 (.slice Aq I.length cq) I.length (bO I)::row 30 1 (.slice (some ⟨O,0,none⟩) rds.length T) rds.length (eD rds)::row 3 1 (.slice (some ⟨Y,0,none⟩) R.Lv.length cy) R.Lv.length (bx ys)::row 3 1 (.slice (some ⟨gi,0,none⟩) R.Lv.length ci) R.Lv.length (bx (R.Lv.map (·.state)))::row 3 1 (.slice (some ⟨gj,0,none⟩) R.Lv.length cj) R.Lv.length (bx (R.Lv.map (·.Lu)))::fr))) aN ?_;refine al (l':=row 58 7 (.slice (some ⟨gf,0,none⟩) ns.length c) ns.length (bU ns vs)::bN h d f::dT f e j::aG e p (S.fail a.tok)::aM j d ⟨K,false,0⟩::ar d (cC σ ⟨K,false,0⟩ 5 a.tok)::blk b7 78 (bS rn a.node a.tri a.tok).toArray::blk b3 43 #[.int .i64 kind,.int .i64 N,.int .i64 kept]::dD w h dl (.slice (some ⟨gf,0,none⟩) ns.length c) 2 (.slice Aq I.length cq) (.slice (some ⟨O,0,none⟩) rds.length T) (.slice (some ⟨Y,0,none⟩) R.Lv.length cy) 2 R.state (.slice (some ⟨gi,0,none⟩) R.Lv.length ci) (.slice (some ⟨gj,0,none⟩) R.Lv.length cj)::row 78 4 (.slice Aq I.length cq) I.length (bO I)::row 30 1 (.slice (some ⟨O,0,none⟩) rds.length T) rds.length (eD rds)::row 3 1 (.slice (some ⟨Y,0,none⟩) R.Lv.length cy) R.Lv.length (bx ys)::row 3 1 (.slice (some ⟨gi,0,none⟩) R.Lv.length ci) R.Lv.length (bx (R.Lv.map (·.state)))::row 3 1 (.slice (some ⟨gj,0,none⟩) R.Lv.length cj) R.Lv.length (bx (R.Lv.map (·.Lu)))::(ck vs ns++fr)) ?_ ?_
     · have LE:=CU (a:=ck vs ns) (b:=[bN h d f,dT f e j,aG e p (S.fail a.tok),aM j d ⟨K,false,0⟩,ar d (cC σ ⟨K,false,0⟩ 5 a.tok),blk b7 78 (bS rn a.node a.tri a.tok).toArray,blk b3 43 #[.int .i64 kind,.int .i64 N,.int .i64 kept],dD w h dl (.slice (some ⟨gf,0,none⟩) ns.length c) 2 (.slice Aq I.length cq) (.slice (some ⟨O,0,none⟩) rds.length T) (.slice (some ⟨Y,0,none⟩) R.Lv.length cy) 2 R.state (.slice (some ⟨gi,0,none⟩) R.Lv.length ci) (.slice (some ⟨gj,0,none⟩) R.Lv.length cj),row 78 4 (.slice Aq I.length cq) I.length (bO I),row 30 1 (.slice (some ⟨O,0,none⟩) rds.length T) rds.length (eD rds),row 3 1 (.slice (some ⟨Y,0,none⟩) R.Lv.length cy) R.Lv.length (bx ys),row 3 1 (.slice (some ⟨gi,0,none⟩) R.Lv.length ci) R.Lv.length (bx (R.Lv.map (·.state))),row 3 1 (.slice (some ⟨gj,0,none⟩) R.Lv.length cj) R.Lv.length (bx (R.Lv.map (·.Lu)))]) (c:=fr)
       exact Ent.trans (Ent.cons LE) aN
     refine sZ Z<|eI Z Z<|dv 1 Z Z Z<|bF Z (bL 1 Z)<|bZ Z (aF Z) (ag Z)<|bF Z (bL 1 Z)<|bZ Z (aF Z) (ag Z)<|bF Z (bp (z:=7) Z Z Z Z MJ) ?_
     refine iJ 8 Z (bR (vs:=aP nd (.slice A6 nd.after.length c6)) Z) (mO .head λj x hj=>by rw[Nat.zero_add,jD ns vs a.node j nd _ LT BT hu (by have:=(gfGet.1 hj).1;simpa[aP] using this)];exact hj) ?_;refine cK 9 Z (cX (z:=.agg #[.int .i64 0,.int .i64 0,.int .i64 0,.int .i64 0,.int .i64 0,.int .i64 0,.slice none 0 0]) Z λMy=>?_);refine dK [true,true,true] (aa (mO bM λj x hj=>by rw[Nat.zero_add,jD ns vs a.node j nd _ LT BT hu (by have:=(gfGet.1 hj).1;simpa[aP] using this)];exact hj) (aa (ag Z) (aa (ag Z) ab))) ?_;refine cK 10 Z<|aZ Z (m:=7) (vs:=aP nd (.slice A6 nd.after.length c6)) Z Z Z Z (by simp[aP,Value.oneCell']) (by show 0+7<=7;omega) ?_
     refine aD My (aP nd (.slice A6 nd.after.length c6)).toArray Z<|dK [false,false,false] ab<|dE<|sT<|sQ ?_
     have In:=((LJ.fl).Lw a.node nd (FK.cB hnd) hnd).1;obtain⟨M0,M3⟩:=FK.s9 nd In s.Lu;have Nf:=FK.yp nd In s.Lu;have MK:=In.2.2.2.2.2.2;have Mt:=In.2.2.2.2.2.1;have LX:=In.2.2.2.2.1;obtain⟨LR,LS⟩:=Mt;obtain⟨Mb,Mc⟩:=MK;obtain⟨Md,MO⟩:=LX;obtain⟨wt,Me⟩:∃wt:Nat,FK.fk nd.base nd.cap nd.LA s.Lu 0=wt:=⟨(FK.fk nd.base nd.cap nd.LA s.Lu 0).toNat,ai⟩;refine sG<|cE (bR (vs:=aP nd (.slice A6 nd.after.length c6)) Z) (aR Z)<|bX 2 Z<|aE Z Z Z Z ?_
     refine bV Z (yM nd A6 nd.after.length c6 a.tri 0 Md LR LS Mb Mc ai) aN ?_;refine aB ?_;rw[<-t8,show((0:Nat):Int)=0 from rfl,Me];refine sB Z<|sQ<|bg Z<|bX 3 Z<|aE Z Z Z Z<|sP (rp Z Z ai)<|sM Z<|iC Z<|eJ (bL 4 Z)<|mJ (aF Z) (ag Z)<|eJ (bL 5 Z)<|mJ (aF Z) (ag Z)<|eJ (aT (r:=nd.cap+nd.LA) Z Z (iI ai))<|eJ (nw Z Z ai)<|sP (aS Z Z Z)<|aq ?_
     refine sT<|ak Z<|ah<|sT<|sZ Z<|eI Z Z<|dv 5 Z Z Z<|bZ Z (aF Z) (ag Z)<|bF Z (bL 1 Z)<|bZ Z (aF Z) (ag Z)<|cJ Z Z<|cJ Z Z<|bF Z (bJ (r:=(wt:Int)) Z Z Z (by rw[mM];omega))<|bF Z (aT (r:=((S.now+wt:Nat):Int)) Z Z (by rw[mM];omega))<|bF Z (bp (z:=1) Z Z Z Z (by omega:a.node<rds.length)) ?_
     refine cK 11 Z<|fL (.tail (.tail pA)) Z Z Z Z ai ?_
     rw[GS];refine al (l':=nodesOwn (.slice (some ⟨gf,0,none⟩) ns.length c) ns::bN h d f::dT f e j::aG e p (S.fail a.tok)::aM j d ⟨K,false,0⟩::ar d (cC σ ⟨K,false,0⟩ 5 a.tok)::dD w h dl (.slice (some ⟨gf,0,none⟩) ns.length c) 2 (.slice Aq I.length cq) (.slice (some ⟨O,0,none⟩) rds.length T) (.slice (some ⟨Y,0,none⟩) R.Lv.length cy) 2 R.state (.slice (some ⟨gi,0,none⟩) R.Lv.length ci) (.slice (some ⟨gj,0,none⟩) R.Lv.length cj)::row 78 4 (.slice Aq I.length cq) I.length (bO I)::row 30 1 (.slice (some ⟨O,0,none⟩) rds.length T) rds.length (eD (rds.set a.node (S.now+wt)))::row 3 1 (.slice (some ⟨Y,0,none⟩) R.Lv.length cy) R.Lv.length (bx ys)::row 3 1 (.slice (some ⟨gi,0,none⟩) R.Lv.length ci) R.Lv.length (bx (R.Lv.map (·.state)))::row 3 1 (.slice (some ⟨gj,0,none⟩) R.Lv.length cj) R.Lv.length (bx (R.Lv.map (·.Lu)))::fr) ?_ ?_
     · refine Ent.trans (b:=row 58 7 (.slice (some ⟨gf,0,none⟩) ns.length c) ns.length (bU ns vs)::(ck vs ns++(bN h d f::dT f e j::aG e p (S.fail a.tok)::aM j d ⟨K,false,0⟩::ar d (cC σ ⟨K,false,0⟩ 5 a.tok)::dD w h dl (.slice (some ⟨gf,0,none⟩) ns.length c) 2 (.slice Aq I.length cq) (.slice (some ⟨O,0,none⟩) rds.length T) (.slice (some ⟨Y,0,none⟩) R.Lv.length cy) 2 R.state (.slice (some ⟨gi,0,none⟩) R.Lv.length ci) (.slice (some ⟨gj,0,none⟩) R.Lv.length cj)::row 78 4 (.slice Aq I.length cq) I.length (bO I)::row 30 1 (.slice (some ⟨O,0,none⟩) rds.length T) rds.length (eD (rds.set a.node (S.now+wt)))::row 3 1 (.slice (some ⟨Y,0,none⟩) R.Lv.length cy) R.Lv.length (bx ys)::row 3 1 (.slice (some ⟨gi,0,none⟩) R.Lv.length ci) R.Lv.length (bx (R.Lv.map (·.state)))::row 3 1 (.slice (some ⟨gj,0,none⟩) R.Lv.length cj) R.Lv.length (bx (R.Lv.map (·.Lu)))::fr))) ?_<|nodesOwn.ent LT
       have LE:=CU (a:=[bN h d f,dT f e j,aG e p (S.fail a.tok),aM j d ⟨K,false,0⟩,ar d (cC σ ⟨K,false,0⟩ 5 a.tok),dD w h dl (.slice (some ⟨gf,0,none⟩) ns.length c) 2 (.slice Aq I.length cq) (.slice (some ⟨O,0,none⟩) rds.length T) (.slice (some ⟨Y,0,none⟩) R.Lv.length cy) 2 R.state (.slice (some ⟨gi,0,none⟩) R.Lv.length ci) (.slice (some ⟨gj,0,none⟩) R.Lv.length cj),row 78 4 (.slice Aq I.length cq) I.length (bO I),row 30 1 (.slice (some ⟨O,0,none⟩) rds.length T) rds.length (eD (rds.set a.node (S.now+wt))),row 3 1 (.slice (some ⟨Y,0,none⟩) R.Lv.length cy) R.Lv.length (bx ys),row 3 1 (.slice (some ⟨gi,0,none⟩) R.Lv.length ci) R.Lv.length (bx (R.Lv.map (·.state))),row 3 1 (.slice (some ⟨gj,0,none⟩) R.Lv.length cj) R.Lv.length (bx (R.Lv.map (·.Lu)))]) (b:=ck vs ns) (c:=fr);refine Ent.trans ?_<|Ent.cons LE
       show Ent _ (row 58 7 (.slice (some ⟨gf,0,none⟩) ns.length c) ns.length (bU ns vs)::bN h d f::dT f e j::aG e p (S.fail a.tok)::aM j d ⟨K,false,0⟩::ar d (cC σ ⟨K,false,0⟩ 5 a.tok)::dD w h dl (.slice (some ⟨gf,0,none⟩) ns.length c) 2 (.slice Aq I.length cq) (.slice (some ⟨O,0,none⟩) rds.length T) (.slice (some ⟨Y,0,none⟩) R.Lv.length cy) 2 R.state (.slice (some ⟨gi,0,none⟩) R.Lv.length ci) (.slice (some ⟨gj,0,none⟩) R.Lv.length cj)::row 78 4 (.slice Aq I.length cq) I.length (bO I)::row 30 1 (.slice (some ⟨O,0,none⟩) rds.length T) rds.length (eD (rds.set a.node (S.now+wt)))::row 3 1 (.slice (some ⟨Y,0,none⟩) R.Lv.length cy) R.Lv.length (bx ys)::row 3 1 (.slice (some ⟨gi,0,none⟩) R.Lv.length ci) R.Lv.length (bx (R.Lv.map (·.state)))::row 3 1 (.slice (some ⟨gj,0,none⟩) R.Lv.length cj) R.Lv.length (bx (R.Lv.map (·.Lu)))::(ck vs ns++fr));exact ap
     refine dK [false,false] ab<|dE<|sT<|bg Z<|cG Z (bC (r:=true) Z Z Z)<|sP (ny (r:=true) Z Z Z Z)<|sM Z<|iC Z<|iC Z<|bQ Z<|bQ Z<|eJ (aS Z Z Z)<|sP (aS Z Z Z)<|sB Z<|an ?_
     refine aJ<|aH ?_
     refine aw (cd h f e j d p (S.fail a.tok) ⟨K,false,0⟩ (cC σ ⟨K,false,0⟩ 5 a.tok)++[dD w h dl (.slice (some ⟨gf,0,none⟩) ns.length c) 2 (.slice Aq I.length cq) (.slice (some ⟨O,0,none⟩) rds.length T) (.slice (some ⟨Y,0,none⟩) R.Lv.length cy) 2 R.state (.slice (some ⟨gi,0,none⟩) R.Lv.length ci) (.slice (some ⟨gj,0,none⟩) R.Lv.length cj),row 78 4 (.slice Aq I.length cq) (I).length (bO (I)),cM (.slice (some ⟨O,0,none⟩) rds.length T) (rds.set a.node (S.now+wt)),aU (.slice (some ⟨Y,0,none⟩) R.Lv.length cy) ys,aU (.slice (some ⟨gi,0,none⟩) R.Lv.length ci) (R.Lv.map (·.state)),aU (.slice (some ⟨gj,0,none⟩) R.Lv.length cj) (R.Lv.map (·.Lu)),nodesOwn (.slice (some ⟨gf,0,none⟩) ns.length c) ns]) Z Z ⟨true,rfl,f,e,j,p,_,R2,_,_,_,_,_,_,_,(by rw[Me] at t7;exact t7),d7,ai,rfl⟩ ?_;show Ent _ (bN h d f::dT f e j::aG e p (S.fail a.tok)::aM j d ⟨K,false,0⟩::ar d (cC σ ⟨K,false,0⟩ 5 a.tok)::dD w h dl (.slice (some ⟨gf,0,none⟩) ns.length c) 2 (.slice Aq I.length cq) (.slice (some ⟨O,0,none⟩) rds.length T) (.slice (some ⟨Y,0,none⟩) R.Lv.length cy) 2 R.state (.slice (some ⟨gi,0,none⟩) R.Lv.length ci) (.slice (some ⟨gj,0,none⟩) R.Lv.length cj)::row 78 4 (.slice Aq I.length cq) (I).length (bO (I))::row 30 1 (.slice (some ⟨O,0,none⟩) rds.length T) (rds.set a.node (S.now+wt)).length (eD (rds.set a.node (S.now+wt)))::row 3 1 (.slice (some ⟨Y,0,none⟩) R.Lv.length cy) ys.length (bx ys)::row 3 1 (.slice (some ⟨gi,0,none⟩) R.Lv.length ci) (R.Lv.map (·.state)).length (bx (R.Lv.map (·.state)))::row 3 1 (.slice (some ⟨gj,0,none⟩) R.Lv.length cj) (R.Lv.map (·.Lu)).length (bx (R.Lv.map (·.Lu)))::nodesOwn (.slice (some ⟨gf,0,none⟩) ns.length c) ns::fr);rw[d9,d8,mt,List.length_set];exact ap
    ·
     obtain rfl:wk=false:=by cases wk with
      | true=>exact absurd rfl HW
      | false=>rfl
     refine sZ Z<|eI Z Z<|dv 0 Z Z Z<|bZ Z (aF Z) (ag Z)<|bF Z (bL 3 Z)<|bZ Z (aF Z) (ag Z) ?_
     refine cK 6 Z<|cF Z eB aN ?_
     rintro v m ⟨rfl,rfl⟩;refine aB<|dK [true,true] (aa (ag Z) (aa (ag Z) ab)) ?_
     refine cK 7 Z<|cF Z (y9 d6 (LV Z)) aN ?_
     rintro v m ⟨rfl,rfl⟩;refine bH<|dK [false,false] ab<|dr 8 Z (aQ Z)<|dE<|sT<|sQ<|bg Z<|sN<|ak Z<|ah<|sT<|bg Z<|cG Z (bC (r:=false) Z Z Z)<|sP (ny (r:=true) Z Z Z Z) ?_
     refine sM Z<|iC Z<|iC Z<|iC Z<|eJ (bC (r:=true) Z Z Z)<|eJ (aS Z Z Z)<|sP (aS Z Z Z)<|sB Z<|an<|aJ<|aH ?_
     refine aw (cd h f e j d p S ⟨K,false,0⟩ σ++[dD w h dl (.slice A ns.length c) 2 (.slice Aq I.length cq) (.slice (some ⟨O,0,none⟩) rds.length T) (.slice (some ⟨Y,0,none⟩) R.Lv.length cy) 2 R.state (.slice (some ⟨gi,0,none⟩) R.Lv.length ci) (.slice (some ⟨gj,0,none⟩) R.Lv.length cj),row 78 4 (.slice Aq I.length cq) (I).length (bO (I)),cM (.slice (some ⟨O,0,none⟩) rds.length T) (rds),aU (.slice (some ⟨Y,0,none⟩) R.Lv.length cy) ys,aU (.slice (some ⟨gi,0,none⟩) R.Lv.length ci) (R.Lv.map (·.state)),aU (.slice (some ⟨gj,0,none⟩) R.Lv.length cj) (R.Lv.map (·.Lu)),nodesOwn (.slice A ns.length c) ns]) Z Z ⟨true,rfl,f,e,j,p,_,R,_,_,_,_,_,_,_,hH.next,d7,ai,rfl⟩ ?_;show Ent _ (bN h d f::dT f e j::aG e p S::aM j d ⟨K,false,0⟩::ar d σ::dD w h dl (.slice A ns.length c) 2 (.slice Aq I.length cq) (.slice (some ⟨O,0,none⟩) rds.length T) (.slice (some ⟨Y,0,none⟩) R.Lv.length cy) 2 R.state (.slice (some ⟨gi,0,none⟩) R.Lv.length ci) (.slice (some ⟨gj,0,none⟩) R.Lv.length cj)::row 78 4 (.slice Aq I.length cq) (I).length (bO (I))::row 30 1 (.slice (some ⟨O,0,none⟩) rds.length T) (rds).length (eD (rds))::row 3 1 (.slice (some ⟨Y,0,none⟩) R.Lv.length cy) ys.length (bx ys)::row 3 1 (.slice (some ⟨gi,0,none⟩) R.Lv.length ci) (R.Lv.map (·.state)).length (bx (R.Lv.map (·.state)))::row 3 1 (.slice (some ⟨gj,0,none⟩) R.Lv.length cj) (R.Lv.map (·.Lu)).length (bx (R.Lv.map (·.Lu)))::nodesOwn (.slice A ns.length c) ns::fr);rw[d9,d8,mt];exact ap
   ·
    refine sS<|sP (bC Z Z Z)<|sB Z ?_
    refine aA Z (λL4=>?_) λL4=>?_
    ·
     refine sQ ?_
     by_cases HW:wk=true
     ·
      subst HW;obtain⟨f8,s,hs,h3,t8⟩:=LH.1 rfl;have f7:=hH.seen.tsk.find hL (d7 a f8) hs h3 t8;have t6:a.node<R.Lv.length:=(gfGet.1 hs).1;obtain⟨nd,hnd,LD⟩:=hL.ok.node hL.get hs;have BT:ns[a.node]?=some nd:=by have:=hnd;rwa [hL.fl] at this
      have t7:=hH.beat ai LB wf f7 hs h3 hnd;refine sZ Z<|eI Z Z<|dv 0 Z Z Z<|bZ Z (aF Z) (ag Z)<|bF Z (bL 3 Z)<|bZ Z (aF Z) (ag Z) ?_
      refine cK 6 Z<|cF Z eB aN ?_
      rintro v m ⟨rfl,rfl⟩;refine aB<|dK [true,true] (aa (ag Z) (aa (ag Z) ab)) ?_
      refine cK 7 Z<|cF Z (Bn (J:=⟨K,false,0⟩) hL.ok wf (by show K<1000000;omega) Z f9 d6 f7 hL.get hnd ai) aN ?_
      rintro v m ⟨rfl,rfl⟩;refine bH<|dK [false,false] ab<|dr 8 Z (aQ Z)<|dE<|sT<|bg Z<|cG Z (bC (r:=true) Z Z Z)<|sP (ny (r:=true) Z Z Z Z)<|sM Z<|iC Z<|iC Z<|bQ Z<|bQ Z<|eJ (aS Z Z Z)<|sP (aS Z Z Z)<|sA Z<|aq ?_
      refine sT<|an<|aJ<|aH ?_
      refine aw (cd h f e j d p (S.life ⟨2,(a.node:Int),0⟩ nd) ⟨K,false,0⟩ (cC σ ⟨K,false,0⟩ 3 a.tok)++[dD w h dl (.slice A ns.length c) 2 (.slice Aq I.length cq) (.slice (some ⟨O,0,none⟩) rds.length T) (.slice (some ⟨Y,0,none⟩) R.Lv.length cy) 2 R.state (.slice (some ⟨gi,0,none⟩) R.Lv.length ci) (.slice (some ⟨gj,0,none⟩) R.Lv.length cj),row 78 4 (.slice Aq I.length cq) (I).length (bO (I)),cM (.slice (some ⟨O,0,none⟩) rds.length T) (rds),aU (.slice (some ⟨Y,0,none⟩) R.Lv.length cy) ys,aU (.slice (some ⟨gi,0,none⟩) R.Lv.length ci) (R.Lv.map (·.state)),aU (.slice (some ⟨gj,0,none⟩) R.Lv.length cj) (R.Lv.map (·.Lu)),nodesOwn (.slice A ns.length c) ns]) Z Z ⟨true,rfl,f,e,j,p,_,R,_,_,_,_,_,_,_,t7,d7,ai,rfl⟩ ?_;show Ent _ (bN h d f::dT f e j::aG e p (S.life ⟨2,(a.node:Int),0⟩ nd)::aM j d ⟨K,false,0⟩::ar d (cC σ ⟨K,false,0⟩ 3 a.tok)::dD w h dl (.slice A ns.length c) 2 (.slice Aq I.length cq) (.slice (some ⟨O,0,none⟩) rds.length T) (.slice (some ⟨Y,0,none⟩) R.Lv.length cy) 2 R.state (.slice (some ⟨gi,0,none⟩) R.Lv.length ci) (.slice (some ⟨gj,0,none⟩) R.Lv.length cj)::row 78 4 (.slice Aq I.length cq) (I).length (bO (I))::row 30 1 (.slice (some ⟨O,0,none⟩) rds.length T) (rds).length (eD (rds))::row 3 1 (.slice (some ⟨Y,0,none⟩) R.Lv.length cy) ys.length (bx ys)::row 3 1 (.slice (some ⟨gi,0,none⟩) R.Lv.length ci) (R.Lv.map (·.state)).length (bx (R.Lv.map (·.state)))::row 3 1 (.slice (some ⟨gj,0,none⟩) R.Lv.length cj) (R.Lv.map (·.Lu)).length (bx (R.Lv.map (·.Lu)))::nodesOwn (.slice A ns.length c) ns::fr);rw[d9,d8,mt];exact ap
     ·
      obtain rfl:wk=false:=by cases wk with
       | true=>exact absurd rfl HW
       | false=>rfl
      refine sZ Z<|eI Z Z<|dv 0 Z Z Z<|bZ Z (aF Z) (ag Z)<|bF Z (bL 3 Z)<|bZ Z (aF Z) (ag Z) ?_
      refine cK 6 Z<|cF Z eB aN ?_
      rintro v m ⟨rfl,rfl⟩;refine aB<|dK [true,true] (aa (ag Z) (aa (ag Z) ab)) ?_
      refine cK 7 Z<|cF Z (zb d6 (LV Z)) aN ?_
      rintro v m ⟨rfl,rfl⟩;refine bH<|dK [false,false] ab<|dr 8 Z (aQ Z)<|dE<|sT<|bg Z<|cG Z (bC (r:=false) Z Z Z)<|sP (ny (r:=true) Z Z Z Z)<|sM Z<|iC Z<|iC Z<|iC Z<|eJ (bC (r:=true) Z Z Z)<|eJ (aS Z Z Z)<|sP (aS Z Z Z)<|sA Z<|aq ?_
      refine sT<|an<|aJ<|aH ?_
      refine aw (cd h f e j d p S ⟨K,false,0⟩ σ++[dD w h dl (.slice A ns.length c) 2 (.slice Aq I.length cq) (.slice (some ⟨O,0,none⟩) rds.length T) (.slice (some ⟨Y,0,none⟩) R.Lv.length cy) 2 R.state (.slice (some ⟨gi,0,none⟩) R.Lv.length ci) (.slice (some ⟨gj,0,none⟩) R.Lv.length cj),row 78 4 (.slice Aq I.length cq) (I).length (bO (I)),cM (.slice (some ⟨O,0,none⟩) rds.length T) (rds),aU (.slice (some ⟨Y,0,none⟩) R.Lv.length cy) ys,aU (.slice (some ⟨gi,0,none⟩) R.Lv.length ci) (R.Lv.map (·.state)),aU (.slice (some ⟨gj,0,none⟩) R.Lv.length cj) (R.Lv.map (·.Lu)),nodesOwn (.slice A ns.length c) ns]) Z Z ⟨true,rfl,f,e,j,p,_,R,_,_,_,_,_,_,_,hH.next,d7,ai,rfl⟩ ?_;show Ent _ (bN h d f::dT f e j::aG e p S::aM j d ⟨K,false,0⟩::ar d σ::dD w h dl (.slice A ns.length c) 2 (.slice Aq I.length cq) (.slice (some ⟨O,0,none⟩) rds.length T) (.slice (some ⟨Y,0,none⟩) R.Lv.length cy) 2 R.state (.slice (some ⟨gi,0,none⟩) R.Lv.length ci) (.slice (some ⟨gj,0,none⟩) R.Lv.length cj)::row 78 4 (.slice Aq I.length cq) (I).length (bO (I))::row 30 1 (.slice (some ⟨O,0,none⟩) rds.length T) (rds).length (eD (rds))::row 3 1 (.slice (some ⟨Y,0,none⟩) R.Lv.length cy) ys.length (bx ys)::row 3 1 (.slice (some ⟨gi,0,none⟩) R.Lv.length ci) (R.Lv.map (·.state)).length (bx (R.Lv.map (·.state)))::row 3 1 (.slice (some ⟨gj,0,none⟩) R.Lv.length cj) (R.Lv.map (·.Lu)).length (bx (R.Lv.map (·.Lu)))::nodesOwn (.slice A ns.length c) ns::fr);rw[d9,d8,mt];exact ap
    ·
     refine sS<|sP (bC Z Z Z)<|sB Z ?_
     refine aA Z (λL5=>?_) λL5=>?_
     ·
      refine sQ<|sZ Z<|eI Z Z<|dv 0 Z Z Z<|bZ Z (aF Z) (ag Z)<|bF Z (bL 1 Z)<|bZ Z (aF Z) (ag Z) ?_
      refine cK 6 Z<|cF Z (eW N 40 hN ai ai) aN ?_
      rintro v m ⟨kt,rfl,⟨M9,Na⟩,rfl⟩;refine aB ?_;obtain⟨kt,rfl⟩:∃n:Nat,kt=n:=⟨kt.toNat,ai⟩;refine dK [false,true] (aa (ag Z) ab)<|dr 7 Z (bJ (r:=(kt:Int)) Z Z Z (by rw[mM];omega)) ?_
      refine cK 8 Z<|cF Z eB aN ?_
      rintro v m ⟨rfl,rfl⟩;refine aB<|dK [true] (aa (ag Z) ab) ?_
      refine cK 9 Z<|cF Z (tE (J:=⟨K,false,0⟩) (n:=kt) hL.ok ai (by show K<1000000;omega) Z f9 d6 ai ai) aN ?_
      rintro v m ⟨rfl,U,hU,rfl⟩;refine bH ?_;obtain⟨R2,t7⟩:=hH.tick ai LB ai hU;refine dK [false] ab<|dr 10 Z (aQ Z)<|dE<|sT<|bg Z<|sP (bC (r:=true) Z Z Z)<|sB Z<|an<|aJ<|aH ?_
      refine aw (cd h f e j d p U ⟨K,false,0⟩ (cC σ ⟨K,false,0⟩ 7 kt)++[dD w h dl (.slice A ns.length c) 2 (.slice Aq I.length cq) (.slice (some ⟨O,0,none⟩) rds.length T) (.slice (some ⟨Y,0,none⟩) R.Lv.length cy) 2 R.state (.slice (some ⟨gi,0,none⟩) R.Lv.length ci) (.slice (some ⟨gj,0,none⟩) R.Lv.length cj),row 78 4 (.slice Aq I.length cq) (I).length (bO (I)),cM (.slice (some ⟨O,0,none⟩) rds.length T) (rds),aU (.slice (some ⟨Y,0,none⟩) R.Lv.length cy) ys,aU (.slice (some ⟨gi,0,none⟩) R.Lv.length ci) (R.Lv.map (·.state)),aU (.slice (some ⟨gj,0,none⟩) R.Lv.length cj) (R.Lv.map (·.Lu)),nodesOwn (.slice A ns.length c) ns]) Z Z ⟨true,rfl,f,e,j,p,_,R2,_,_,_,_,_,_,_,t7,d7,ai,rfl⟩ ?_;show Ent _ (bN h d f::dT f e j::aG e p U::aM j d ⟨K,false,0⟩::ar d (cC σ ⟨K,false,0⟩ 7 kt)::dD w h dl (.slice A ns.length c) 2 (.slice Aq I.length cq) (.slice (some ⟨O,0,none⟩) rds.length T) (.slice (some ⟨Y,0,none⟩) R.Lv.length cy) 2 R.state (.slice (some ⟨gi,0,none⟩) R.Lv.length ci) (.slice (some ⟨gj,0,none⟩) R.Lv.length cj)::row 78 4 (.slice Aq I.length cq) (I).length (bO (I))::row 30 1 (.slice (some ⟨O,0,none⟩) rds.length T) (rds).length (eD (rds))::row 3 1 (.slice (some ⟨Y,0,none⟩) R.Lv.length cy) ys.length (bx ys)::row 3 1 (.slice (some ⟨gi,0,none⟩) R.Lv.length ci) (R.Lv.map (·.state)).length (bx (R.Lv.map (·.state)))::row 3 1 (.slice (some ⟨gj,0,none⟩) R.Lv.length cj) (R.Lv.map (·.Lu)).length (bx (R.Lv.map (·.Lu)))::nodesOwn (.slice A ns.length c) ns::fr);rw[d9,d8,mt];exact ap
     ·
      refine sS<|sP (nx Z Z ai)<|sB Z<|aO Z<|sQ<|sZ Z<|eI Z Z<|dv 0 Z Z Z<|bZ Z (aF Z) (ag Z)<|bF Z (bL 2 Z)<|bZ Z (aF Z) (ag Z) ?_
      refine cK 6 Z<|cF Z (qA (ke:=kept) (pa:=0) hH.kb (by unfold i64;omega)) (Ent.cons gfE3) ?_
      rintro v m ⟨rfl,σ',Mn,rfl⟩;refine az<|dK [false,false] ab<|dE<|sT<|sQ<|sZ Z<|eI Z Z<|dv 0 Z Z Z<|bZ Z (aF Z) (ag Z) ?_
      refine cK 4 Z<|cF Z eB aN ?_
      rintro v m ⟨rfl,rfl⟩;refine aB<|dK [true] (aa (ag Z) ab) ?_
      refine cK 5 Z<|cF Z (qz LB Mn (hH.smal ai) hH.reds) aN ?_
      rintro v m ⟨rfl,f',e',j',p',rfl⟩;refine bH<|dK [false] ab<|dr 6 Z (aQ Z)<|dE<|sT<|bg Z<|sP (bC (r:=true) Z Z Z)<|sB Z<|an<|aJ<|aH ?_
      refine aw (cd h f' e' j' d p' S ⟨K,false,0⟩ σ'++[dD w h dl (.slice A ns.length c) 2 (.slice Aq I.length cq) (.slice (some ⟨O,0,none⟩) rds.length T) (.slice (some ⟨Y,0,none⟩) R.Lv.length cy) 2 R.state (.slice (some ⟨gi,0,none⟩) R.Lv.length ci) (.slice (some ⟨gj,0,none⟩) R.Lv.length cj),row 78 4 (.slice Aq I.length cq) (I).length (bO (I)),cM (.slice (some ⟨O,0,none⟩) rds.length T) (rds),aU (.slice (some ⟨Y,0,none⟩) R.Lv.length cy) ys,aU (.slice (some ⟨gi,0,none⟩) R.Lv.length ci) (R.Lv.map (·.state)),aU (.slice (some ⟨gj,0,none⟩) R.Lv.length cj) (R.Lv.map (·.Lu)),nodesOwn (.slice A ns.length c) ns]) Z Z ⟨true,rfl,f',e',j',p',_,R,_,_,_,_,_,_,_,(hH.lost Mn).next,d7,ai,rfl⟩ ?_;show Ent _ (bN h d f'::dT f' e' j'::aG e' p' S::aM j' d ⟨K,false,0⟩::ar d σ'::dD w h dl (.slice A ns.length c) 2 (.slice Aq I.length cq) (.slice (some ⟨O,0,none⟩) rds.length T) (.slice (some ⟨Y,0,none⟩) R.Lv.length cy) 2 R.state (.slice (some ⟨gi,0,none⟩) R.Lv.length ci) (.slice (some ⟨gj,0,none⟩) R.Lv.length cj)::row 78 4 (.slice Aq I.length cq) (I).length (bO (I))::row 30 1 (.slice (some ⟨O,0,none⟩) rds.length T) (rds).length (eD (rds))::row 3 1 (.slice (some ⟨Y,0,none⟩) R.Lv.length cy) ys.length (bx ys)::row 3 1 (.slice (some ⟨gi,0,none⟩) R.Lv.length ci) (R.Lv.map (·.state)).length (bx (R.Lv.map (·.state)))::row 3 1 (.slice (some ⟨gj,0,none⟩) R.Lv.length cj) (R.Lv.map (·.Lu)).length (bx (R.Lv.map (·.Lu)))::nodesOwn (.slice A ns.length c) ns::fr);rw[d9,d8,mt];exact ap
end
end Go.Y

namespace FK
open Go.Y (dN il)
theorem KX (l:List (List UInt8)) (B:En):KB 0 B l (py l 1):=by
 have K:aW 0≠bw 0:=m6 di di;have e:(bw 0==bw 0)=true:=(Go.MapKept.bytes_beq _ _).2 rfl;have E:Fb 0 B l [(bw 0,dN (frames l))]:=by
  refine⟨by simp,λs I=>.inr (by simpa using I),?_,?_⟩
  · rw[if_pos rfl]
    exact kget_none.2 λh=>K (by simpa using h)
  · unfold kA
    simp[dw,e]
    rfl
 exact⟨pR l,E,E,λ_=>rfl⟩
theorem KS (F:Flow) (p:Pl) (a:Nat):((o8.begin F).setT p a).runs.map (·.1)=[1,2]/\(∀A,((o8.begin F).setT p a).getR 1=some A->A.fl=flow2)/\Stt ((o8.begin F).setT p a):=by
 obtain⟨X,K,O,T,h3⟩:∃X:Rn,o8.runs=[(1,X)]/\X.fl=flow2/\0<=X.state/\X.state<=9:=⟨_,rfl,rfl,by decide,by decide⟩;have I:((o8.begin F).setT p a).runs=[(1,X),(2,Rn.begun F)]:=by
  show o8.runs++[(o8.Lt+1,Rn.begun F)]=_;rw[K]
  rfl
 refine⟨by rw[I];rfl,λA E=>?_,λi A E=>?_⟩
 · unfold En.getR at E
   rw[I] at E;simp at E;rw[<-E];exact O
 · unfold En.getR at E
   rw[I,List.find?_cons,List.find?_cons] at E
   split at E
   · injection E with E
     rw[<-E];exact⟨T,h3⟩
   · split at E
     · injection E with E
       rw[<-E];exact⟨by show(0:Int)<=1;decide,by show(1:Int)<=9;decide⟩
     · cases E
theorem Sec.start {F:Flow} {R:Rn} (h:Lone 2 F (o8.submit F) R):Sec F (o8.submit F) R:=by
 obtain⟨I,K,h3⟩:=KS F ⟨o8.Lt+1,-1,0⟩ (o8.later F.deadline.toNat);have k:Kp ((o8.begin F).setT ⟨o8.Lt+1,-1,0⟩ (o8.later F.deadline.toNat)) (o8.submit F):=Cz _ _;exact⟨h,k.keys.trans I,λA E=>by
  obtain⟨B,O,e,_⟩:=k.run 1 A E;rw[e];exact K B O,h3.kp k⟩
theorem CpSt.start {F:Flow} {R:Rn} {l:List (List UInt8)} (K:Fit F) (h:Seen 2 F (o8.submit F) R (λ_=>0) []) (I:Lg 3000 l (o8.submit F)):CpSt F 0 En.fresh l (o8.submit F) R (List.replicate F.Lw.length 0) [] (py l 1) 0:=by
 obtain⟨R2,_,_,_,T,_,b2,b3,Y,b5⟩:=Seen.begin uv di K rfl xL;have h0:(iX En.fresh).length<=100000:=Sec.fresh.len;have h1:=il (iX En.fresh) ai;refine⟨Sec.start h.lone,⟨h.lone,λk s hs=>?_,h.tsk⟩,by simp,KX l _,Sec.fresh,(λx O=>by cases O),ai,I.reds,I.len,⟨?_,?_,?_,?_,?_⟩⟩
 · have E:(List.replicate F.Lw.length 0).getD k 0=0:=by
    rw[List.getD_eq_getElem?_getD,List.getElem?_replicate]
    split<;>rfl
   show((_->(List.replicate F.Lw.length 0).getD k 0<=_)/\_);rw[E];exact⟨λ_=>Nat.zero_le _,λ_ _ _=>Nat.zero_le _⟩
 · exact Nat.le_trans (Nat.le_of_eq b2) di
 · exact Nat.le_trans (Nat.le_of_eq b3) di
 · exact Nat.le_trans (Nat.le_of_eq Y) di
 · exact Nat.le_trans (Nat.le_of_eq b5) di
 · exact Nat.le_trans (Nat.le_of_eq T) di
def Km (l:List KD) (x:KD):FR.Tmd:=⟨x.1.run,x.1.node,x.2,l.idxOf x⟩
theorem uK {l:List KD} (h:l.Nodup):FR.Seqs (l.map (Km l)):=by
 unfold FR.Seqs;rw[List.pairwise_map,List.pairwise_iff_getElem];intro i j hi I E;show l.idxOf l[i]<l.idxOf l[j];rw[h.idxOf_getElem,h.idxOf_getElem];exact E
theorem Ok.tnd {S:En} (h:Ok S):S.tms.Nodup:=(List.pairwise_map.1 h.knd).imp λE e=>E (congrArg _ e)
structure Ev where
 kind:Int
 n:Int
 kept:Int
end FK
namespace Go.Y
open Go.Proofs
open Go Go.RowKit Go.SL
abbrev evL (x:FK.Ev):List Value:=[.int .i64 x.kind,.int .i64 x.n,.int .i64 x.kept]
structure EvsAt (w:World) (B:Nat) (A:Option Addr) (c:Nat) (l:List FK.Ev):Prop where
 rng:∀x∈l,i64 x.kind/\i64 x.n/\i64 x.kept
 len:l.length<=c
 cap:c<=9223372036854775807
 cells:0<l.length->∃b off,A=some ⟨b,off,none⟩/\b<B/\∀i x,l[i]?=some x->∀j u,(evL x)[j]?=some u->w.cell? ⟨b,off+i*3+j,none⟩=some u
theorem EvsAt.keep {w w':World} {B:Nat} {A:Option Addr} {c:Nat} {l:List FK.Ev} (h:EvsAt w B A c l) (s:Same B w w'):EvsAt w' B A c l:=by
 obtain⟨Y,h1,h2,h3⟩:=h;refine⟨Y,h1,h2,λK=>?_⟩;obtain⟨b,E,rfl,I,hc⟩:=h3 K;exact⟨b,E,rfl,I,λi x O j u T=>by rw[s.cell I];exact hc i x O j u T⟩
end Go.Y

namespace Go.Y
open Go.Proofs Go.RowKit Go.SL
theorem CO (a b c d e:Operand) (v w x y z:Value) (e1:v.cells=#[v]) (e2:w.cells=#[w]) (E:x.cells=#[x]) (I:y.cells=#[y]) (K:z.cells=#[z]):Instr.fill (λi=>some (i*1,1)) (Array.map (λx=>(Value.int .i64 0).cells[x%(Value.int .i64 0).cells.size]!) (Array.range (5*1))) ((List.map (λx=>x.1) [((0:Nat),a),(1,b),(2,c),(3,d),(4,e)]).zip [v,w,x,y,z])=some #[v,w,x,y,z]:=by
 have e0:Array.range (5*1)=#[0,1,2,3,4]:=rfl;rw[e0];simp[Instr.fill,e1,e2,E,I,K]
theorem CG {E:Env} {l r:List HP} {b:Nat} {xs:List Int} {t:TypeId} (s:Sel (blk b t (bx xs).toArray) l r) (I:∀x∈xs,i64 x) (O:xs.length<=100):∀w,Holds E w l->IntsAt w w.heap.size (some ⟨b,0,none⟩) xs.length xs:=λw hw=>by
 have h:=(hw.ob s).1;refine⟨I,cm _,ai,λ_=>⟨b,0,rfl,?_,λi x K=>?_⟩⟩
 · exact(Array.getElem?_eq_some_iff.1 h).1
 · simp[World.cell?,h,bx,K]
theorem eqTmr (x:FR.Tmd):mW Tryz.prog (dz x).toArray (dz x).toArray (Tryz.prog.fieldsOf 54).toList=some true:=by
 have:mW Tryz.prog (dz x).toArray (dz x).toArray (Tryz.prog.fieldsOf 54).toList=some (((x.run:Int)==x.run)&&((x.node==x.node)&&(((x.due:Int)==x.due)&&true))):=rfl;rw[this];simp
theorem EM {n:Nat} (E:n<1000000):(FK.aW n).size<=25:=by
 have I:=yh n E;unfold FK.aW;rw[ByteArray.size_append];have:(⟨#[98,97,115,101]⟩:ByteArray).size=4:=rfl;omega
structure CX where
 i:Nat
 nb:Nat
 f:Nat
 e:Nat
 j:Nat
 p:EA
 B:FK.En
 S:FK.En
 R:FK.Rn
 l:List (List UInt8)
 rds:List Nat
 ts:List FK.Hd
 ws:List FK.Hd
 σ:FK.Dsk
 tv:Value
 rv:Value
 ir:Nat
 st:Int
 iv:Value
 jv:Value
structure CXok (dl:Int) (ns:List FK.Node) (N:Nat) (x:CX):Prop where
 le:x.i<=N
 st:FK.CpSt ⟨dl,ns⟩ x.nb x.B x.l x.S x.R x.rds x.ts x.σ x.i
 nb:x.nb<=x.i
 ws:∀a∈x.ws,a∈x.ts
 wl:x.ws.length<=x.i
abbrev cxM (w h d:Nat) (I:Int) (nv E:Value) (ns:List FK.Node) (x:CX) (r:List HP):List HP:=bN h d x.f::dT x.f x.e x.j::aG x.e x.p x.S::aM x.j d ⟨x.nb,false,0⟩::ar d x.σ::dD w h I nv 2 x.tv x.rv E x.ir x.st x.iv x.jv::row 78 4 x.tv x.ws.length (bO x.ws)::cM x.rv x.rds::aU E (List.replicate ns.length 0)::nodesOwn nv ns::r
end Go.Y

namespace Go.Y
open Go.Proofs Go.RowKit Go.SL
theorem qV (d6 kept:Int) (LL:i64 d6) (A3:Option Addr) (c3:Nat) (evs:List FK.Ev) :
 Gives Tryz.prog Good 3 [.slice A3 evs.length c3,.int .i64 d6,.int .i64 kept].toArray (λw=>EvsAt w w.heap.size A3 c3 evs) λv m=>v=.bool true/\m=[]:=by
 refine Gives.body Tryz.func3 Z Z λE w0 hE h0 t6=>?_;have L3:=t6.cap;have L4:=t6.len;refine sS<|sB Z<|sS ?_
 refine sO (dB (m:=5) (z:=.int .i64 0) (size:=1) (ps:=[(0,.const (.int .i64 0)),(1,.const (.int .i64 1)),(2,.const (.int .i64 3)),(3,.const (.int .i64 4)),(4,.const (.int .i64 9))]) (vs:=bx [0,1,3,4,9]) (cs:=(bx [0,1,3,4,9]).toArray) Z Z Z Z ai ai Z (CO _ _ _ _ _ _ _ _ _ _ Z Z Z Z Z) λLM=>?_);refine sO (dB (m:=5) (z:=.int .i64 0) (size:=1) (ps:=[(0,.const (.int .i64 4)),(1,.const (.int .i64 14)),(2,.const (.int .i64 44)),(3,.const (.int .i64 9)),(4,.const (.int .i64 3))]) (vs:=bx [4,14,44,9,3]) (cs:=(bx [4,14,44,9,3]).toArray) Z Z Z Z ai ai Z (CO _ _ _ _ _ _ _ _ _ _ Z Z Z Z Z) λLN=>?_);refine eu rfl<|iP rfl rfl rfl hE (Eg 5 1500 (by unfold i64;omega) (by unfold i64;omega) (some ⟨LM,0,none⟩) (some ⟨LN,0,none⟩) 5 5 [0,1,3,4,9] [4,14,44,9,3]) (λw hw=>⟨CG bM (by intro x hx;simp at hx;unfold i64;omega) di w hw,CG .head (by intro x hx;simp at hx;unfold i64;omega) di w hw⟩) ?_
 rintro v m ⟨dl,ns,A',c',LF,LR,LG,LH,rfl,rfl⟩;refine ae ?_;have Fd:=LH.fit (d:=dl) LF LR LG;refine sO (cX (z:=.agg #[.int .i64 0,.slice none 0 0]) Z λb7=>?_);refine sO<|aZ Z (m:=2) (vs:=[.int .i64 dl,.slice A' ns.length c']) Z Z Z Z fx (by simp[Value.cells]) ?_
 refine sN<|sS<|cE (bR (vs:=[.int .i64 dl,.slice A' ns.length c']) Z) (aR Z) ?_
 refine ch Z (AA dl ns A' c' Fd) gfE1 ?_;rintro v m ⟨w,h,f,e,j,d,p,l,R,rv,yv,rfl,LC,LS,rfl⟩;have In:=FK.CpSt.start Fd LC LS;obtain⟨S,hS⟩:∃S,S=FK.o8.submit ⟨dl,ns⟩:=⟨_,rfl⟩;rw[<-hS] at In ⊢;refine al (l':=dD w h dl (.slice A' ns.length c') 2 (.slice none 0 0) rv yv 0 0 (.slice none 0 0) (.slice none 0 0)::cM rv (List.replicate ns.length 0)::aU yv (List.replicate ns.length 0)::nodesOwn (.slice A' ns.length c') ns::bN h d f::dT f e j::aG e p S::aM j d FK.J0::ar d (FK.py l 1)::old E w0::[]) (by show Ent (dD w h dl (.slice A' ns.length c') 2 (.slice none 0 0) rv yv 0 0 (.slice none 0 0) (.slice none 0 0)::cM rv (List.replicate ns.length 0)::aU yv (List.replicate ns.length 0)::nodesOwn (.slice A' ns.length c') ns::bN h d f::dT f e j::aG e p S::aM j d FK.J0::ar d (FK.py l 1)::blk b7 25 _::_::_::old E w0::[]) _;exact ap) ?_;refine sB Z<|sQ<|sQ ?_
 by_cases H3:evs.length<=300
 ·
  refine sG<|cG Z (ez Z Z Z)<|sM Z<|iC Z<|eJ (bh Z Z)<|eJ (nw Z Z ai)<|sP (aS Z Z Z)<|sN<|ak Z<|ah<|sT<|sQ<|sQ ?_
  refine al ((Ent.row0 (e:=78) (size:=4))) ?_;refine sG<|sB Z<|aj ?_
  refine aL (X:=CX) (λx=>[(9,.int .i64 (x.i:Int)),(8,aX w),(0,.slice A3 evs.length c3),(1,.int .i64 d6),(2,.int .i64 kept),(6,.bool false)]) (λx=>cxM w h d dl (.slice A' ns.length c') yv ns x (old E w0::[])) (λx=>CXok dl ns evs.length x) (λx=>evs.length-x.i) ⟨0,0,f,e,j,p,FK.En.fresh,S,R,l,(List.replicate ns.length 0),[],[],FK.py l 1,.slice none 0 0,rv,0,0,.slice none 0 0,.slice none 0 0⟩ ⟨Nat.zero_le _,In,cm _,(λa ha=>by cases ha),cm _⟩ cf (by show Ent (row 78 4 (.slice none 0 0) 0 []::dD w h dl (.slice A' ns.length c') 2 (.slice none 0 0) rv yv 0 0 (.slice none 0 0) (.slice none 0 0)::cM rv (List.replicate ns.length 0)::aU yv (List.replicate ns.length 0)::nodesOwn (.slice A' ns.length c') ns::bN h d f::dT f e j::aG e p S::aM j d ⟨0,false,0⟩::ar d (FK.py l 1)::old E w0::[]) (bN h d f::dT f e j::aG e p S::aM j d ⟨0,false,0⟩::ar d (FK.py l 1)::dD w h dl (.slice A' ns.length c') 2 (.slice none 0 0) rv yv 0 0 (.slice none 0 0) (.slice none 0 0)::row 78 4 (.slice none 0 0) 0 []::cM rv (List.replicate ns.length 0)::aU yv (List.replicate ns.length 0)::nodesOwn (.slice A' ns.length c') ns::old E w0::[]);exact ap) ?_;rintro⟨i,nb,f,e,j,p,B,S,R,l,t7,ts,ws,σ,tv,rv,ir,st,iv,jv⟩ ⟨hi,hH,t8,LD,LE⟩;replace hi:i<=evs.length:=hi;replace hH:FK.CpSt ⟨dl,ns⟩ nb B l S R t7 ts σ i:=hH;replace t8:nb<=i:=t8;replace LD:∀a∈ws,a∈ts:=LD;replace LE:ws.length<=i:=LE;have hL:=hH.sec.lone;have LZ:R.Lv.length=ns.length:=by rw[(hL.ok.run 2 R hL.get).len,hL.fl]
  have L5:(R.Lv.map (·.state)).length=R.Lv.length:=by rw[List.length_map]
  have L6:(R.Lv.map (·.Lu)).length=R.Lv.length:=by rw[List.length_map]
  refine al (l':=bN h d f::dT f e j::aG e p S::aM j d ⟨nb,false,0⟩::ar d σ::dD w h dl (.slice A' ns.length c') 2 tv rv yv ir st iv jv::row 78 4 tv ws.length (bO ws)::cM rv t7::aU yv (List.replicate ns.length 0)::nodesOwn (.slice A' ns.length c') ns::old E w0::[]) aN ?_;refine sQ<|sQ ?_
  by_cases HI:i<evs.length
  ·
   refine sG<|sM Z<|cG Z (bh Z Z)<|sP (bB (r:=true) Z Z (zR (show(i:Int)<(evs.length:Int) by omega)))<|sN<|aO Z<|ah<|sT<|sQ<|aj ?_
   refine sQ<|cT (X:=Nat×Option Addr×Nat×Option Addr×Nat) (λx=>[(11,.int .i64 0),(10,aX x.1),(9,.int .i64 (i:Int)),(8,aX w),(0,.slice A3 evs.length c3),(1,.int .i64 d6),(2,.int .i64 kept),(6,.bool false)]) (λx=>blk x.1 32 (dh 2 R.state (.slice x.2.1 R.Lv.length x.2.2.1) (.slice x.2.2.2.1 R.Lv.length x.2.2.2.2)).toArray::aU (.slice x.2.1 R.Lv.length x.2.2.1) (R.Lv.map (·.state))::aU (.slice x.2.2.2.1 R.Lv.length x.2.2.2.2) (R.Lv.map (·.Lu))::bN h d f::dT f e j::aG e p S::aM j d ⟨nb,false,0⟩::ar d σ::dD w h dl (.slice A' ns.length c') 2 tv rv yv ir st iv jv::row 78 4 tv ws.length (bO ws)::cM rv t7::aU yv (List.replicate ns.length 0)::nodesOwn (.slice A' ns.length c') ns::old E w0::[]) (λ_=>True) ?_ ?_
   ·
    refine sZ Z<|eI Z Z<|dv 0 Z Z Z<|bZ Z (aF Z) (ag Z)<|cJ Z Z<|dv 3 Z Z Z<|bZ Z (aF Z) (ag Z) ?_
    refine fo 8 12 Z Z Z Z eP (cF Z (gA hL.ok hL.get) aN ?_) (cX (z:=.agg #[.int .u64 0,.int .i64 0,.slice none 0 0,.slice none 0 0]) Z λf9=>?_)
    ·
     rintro v m ⟨A2,c2,A4,c4,rfl,rfl⟩;refine iV<|dK [false,false] ab<|dr 9 Z (bn Z)<|bF Z (bA Z Z)<|bF Z (bA Z Z)<|tV Z (cX (z:=.agg #[.int .u64 0,.int .i64 0,.slice none 0 0,.slice none 0 0]) Z λf9=>(dK [] ab ?_))
     refine cK 13 Z<|aZ Z (m:=4) (vs:=dh 2 R.state (.slice A2 R.Lv.length c2) (.slice A4 R.Lv.length c4)) Z Z Z Z fx (by show 0+4<=4;omega) ?_
     exact aD f9 (dh 2 R.state (.slice A2 R.Lv.length c2) (.slice A4 R.Lv.length c4)).toArray Z<|dK [] ab<|dr 14 Z (aQ Z)<|dE<|bd (f9,A2,c2,A4,c4) trivial cf ap
    ·
     refine dK [true,true] (aa (ag Z) (aa (ag Z) ab))<|cK 8 Z<|cF Z (gA hL.ok hL.get) jj ?_
     rintro v m ⟨A2,c2,A4,c4,rfl,rfl⟩;refine iV<|dK [false,false] ab<|dr 9 Z (bn Z)<|bF Z (bA Z Z)<|bF Z (bA Z Z) ?_
     refine cK 13 Z<|aZ Z (m:=4) (vs:=dh 2 R.state (.slice A2 R.Lv.length c2) (.slice A4 R.Lv.length c4)) Z Z Z Z fx (by show 0+4<=4;omega) ?_
     exact aD f9 (dh 2 R.state (.slice A2 R.Lv.length c2) (.slice A4 R.Lv.length c4)).toArray Z<|dK [] ab<|dr 14 Z (aQ Z)<|dE<|bd (f9,A2,c2,A4,c4) trivial cf ap
   rintro⟨f9,A2,c2,A4,c4⟩ -
   refine al (l':=blk f9 32 (dh 2 R.state (.slice A2 R.Lv.length c2) (.slice A4 R.Lv.length c4)).toArray::aU (.slice A2 R.Lv.length c2) (R.Lv.map (·.state))::aU (.slice A4 R.Lv.length c4) (R.Lv.map (·.Lu))::bN h d f::dT f e j::aG e p S::aM j d ⟨nb,false,0⟩::ar d σ::dD w h dl (.slice A' ns.length c') 2 tv rv yv ir st iv jv::row 78 4 tv ws.length (bO ws)::cM rv t7::aU yv (List.replicate ns.length 0)::nodesOwn (.slice A' ns.length c') ns::old E w0::[]) aN ?_;refine bg Z<|cE (bR (vs:=dh 2 R.state (.slice A2 R.Lv.length c2) (.slice A4 R.Lv.length c4)) Z) (aR Z)<|dA Z<|bX 7 Z ?_
   refine sO<|aZ Z (m:=4) (vs:=dh 2 R.state (.slice A2 R.Lv.length c2) (.slice A4 R.Lv.length c4)) Z Z Z Z fx (by show 7+4<=11;omega) ?_
   refine aD w (zN h dl (.slice A' ns.length c') 2 tv rv yv 2 R.state (.slice A2 R.Lv.length c2) (.slice A4 R.Lv.length c4)).toArray Z ?_;refine al (l':=bN h d f::dT f e j::aG e p S::aM j d ⟨nb,false,0⟩::ar d σ::dD w h dl (.slice A' ns.length c') 2 tv rv yv 2 R.state (.slice A2 R.Lv.length c2) (.slice A4 R.Lv.length c4)::row 78 4 tv ws.length (bO ws)::cM rv t7::aU yv (List.replicate ns.length 0)::aU (.slice A2 R.Lv.length c2) (R.Lv.map (·.state))::aU (.slice A4 R.Lv.length c4) (R.Lv.map (·.Lu))::nodesOwn (.slice A' ns.length c') ns::old E w0::[]) ap ?_;refine sN<|sQ ?_
   obtain⟨bE,oE,rfl,L7,LB⟩:=t6.cells ai;obtain⟨x,hx⟩:∃x,evs[i]?=some x:=⟨evs[i],List.getElem?_eq_getElem HI⟩;obtain⟨LP,LQ,L8⟩:=t6.rng x (du hx);refine sG<|sM Z<|sM Z<|cG Z (bp (z:=3) Z Z Z Z HI) ?_
   refine cE (bR (vs:=evL x) Z) (zV (.tail (.tail (.tail pA))) h0 λj u hj=>LB i x hx j u hj) ?_;refine ch Z (yU (kept:=x.kept) (ys:=(List.replicate ns.length 0)) hH ai LD LE cP (λy hy=>(List.mem_replicate.1 hy).2) ai LP LQ) aN ?_;rintro v m ⟨bq,rfl,f2,e2,j2,p2,S2,R2,l2,T,LJ,I,K,O,σ2,d9,wf,BT,rfl⟩;refine al (l':=bN h d f2::dT f2 e2 j2::aG e2 p2 S2::aM j2 d ⟨nb,false,0⟩::ar d σ2::dD w h dl (.slice A' ns.length c') 2 K O yv 2 R.state (.slice A2 R.Lv.length c2) (.slice A4 R.Lv.length c4)::row 78 4 K I.length (bO I)::cM O T::aU yv (List.replicate ns.length 0)::nodesOwn (.slice A' ns.length c') ns::old E w0::[]) (by show Ent (bN h d f2::dT f2 e2 j2::aG e2 p2 S2::aM j2 d ⟨nb,false,0⟩::ar d σ2::dD w h dl (.slice A' ns.length c') 2 K O yv 2 R.state (.slice A2 R.Lv.length c2) (.slice A4 R.Lv.length c4)::row 78 4 K I.length (bO I)::cM O T::aU yv (List.replicate ns.length 0)::aU (.slice A2 R.Lv.length c2) (R.Lv.map (·.state))::aU (.slice A4 R.Lv.length c4) (R.Lv.map (·.Lu))::nodesOwn (.slice A' ns.length c') ns::old E w0::[]) _;exact ap) ?_;refine sN<|bg Z<|sM Z ?_
   refine ch Z (eW d6 20 LL ai ai) aN ?_;rintro v m ⟨kq,rfl,⟨Ma,Mb⟩,rfl⟩;refine aB ?_;obtain⟨kn,rfl⟩:∃n:Nat,kq=n:=⟨kq.toNat,ai⟩;refine sP (aT (r:=((kn+1:Nat):Int)) Z Z eg)<|sP (lZ (r:=((i%(kn+1):Nat):Int)) Z Z ai (np (a:=i) (b:=kn+1) ai ai))<|sP (bC Z Z Z)<|sN ?_
   refine aA Z (λLO=>?_) λLO=>?_
   ·
    refine sS<|dS 0 Z Z<|aE Z Z Z Z ?_
    refine ch Z (pi (τ:=FK.Km S2.tms) (λ_=>rfl) (by have:=d9.sec.lone.ok.tmsLe;omega) (FK.uK d9.sec.lone.ok.tnd)) aN ?_;rintro v m ⟨Y,hY,Mc,rfl⟩;refine jK<|aI .head ?_
    rintro A5 c5 rfl LT LU Md LV -
    have Me:Y.length<=9223372036854775807:=by unfold maxLen at LV;omega
    refine al (l':=bN h d f2::dT f2 e2 j2::aG e2 p2 S2::aM j2 d ⟨nb,false,0⟩::ar d σ2::row 54 3 (.slice A5 Y.length c5) Y.length (Y.flatMap dz)::dD w h dl (.slice A' ns.length c') 2 K O yv 2 R.state (.slice A2 R.Lv.length c2) (.slice A4 R.Lv.length c4)::row 78 4 K I.length (bO I)::cM O T::aU yv (List.replicate ns.length 0)::nodesOwn (.slice A' ns.length c') ns::old E w0::[]) (by show Ent (row 54 3 (.slice A5 Y.length c5) Y.length (Y.flatMap dz)::bN h d f2::dT f2 e2 j2::aG e2 p2 S2::aM j2 d ⟨nb,false,0⟩::ar d σ2::dD w h dl (.slice A' ns.length c') 2 K O yv 2 R.state (.slice A2 R.Lv.length c2) (.slice A4 R.Lv.length c4)::row 78 4 K I.length (bO I)::cM O T::aU yv (List.replicate ns.length 0)::nodesOwn (.slice A' ns.length c') ns::old E w0::[]) _;exact ap) ?_;refine sB Z<|sQ<|sZ Z<|eI Z Z<|dv 0 Z Z Z<|bZ Z (aF Z) (ag Z) ?_
    refine cK 4 Z<|cF Z eB aN ?_
    rintro v m ⟨rfl,rfl⟩;refine aB<|dK [true] (aa (ag Z) ab) ?_
    refine cK 5 Z<|cF Z (Bl ai d9.kb (d9.smal ai) (d9.Svd ai) (by have:=(d9.anew ai ai).1;omega)) aN ?_
    rintro v m ⟨rfl,rfl⟩;refine bH ?_;obtain⟨L9,d7⟩:=d9.anew ai ai;have Mf:(FK.aW (nb+1)).size+(dN (FK.frame (FK.iX S2))).size<=3800:=by
     have h1:=EM (n:=nb+1) ai;rw[kF];omega
    refine dK [false] ab<|dr 6 Z (aQ Z)<|dE<|sT<|sS<|dS 0 Z Z<|aE Z Z Z Z ?_
    refine bV Z (Bm (a:=FK.aW (nb+1)) (s:=dN (FK.frame (FK.iX S2))) ai) (Ent.cons gfE3) ?_;refine az ?_;refine al (l':=bN h d f2::dT f2 e2 j2::aG e2 p2 S2::aM j2 d ⟨nb+1,false,0⟩::ar d (FK.ka (nb+1) S2 1)::row 54 3 (.slice A5 Y.length c5) Y.length (Y.flatMap dz)::dD w h dl (.slice A' ns.length c') 2 K O yv 2 R.state (.slice A2 R.Lv.length c2) (.slice A4 R.Lv.length c4)::row 78 4 K I.length (bO I)::cM O T::aU yv (List.replicate ns.length 0)::nodesOwn (.slice A' ns.length c') ns::old E w0::[]) (by show Ent (bN h d f2::ar d (FK.ka (nb+1) S2 1)::dT f2 e2 j2::aG e2 p2 S2::aM j2 d ⟨nb+1,false,0⟩::row 54 3 (.slice A5 Y.length c5) Y.length (Y.flatMap dz)::dD w h dl (.slice A' ns.length c') 2 K O yv 2 R.state (.slice A2 R.Lv.length c2) (.slice A4 R.Lv.length c4)::row 78 4 K I.length (bO I)::cM O T::aU yv (List.replicate ns.length 0)::nodesOwn (.slice A' ns.length c') ns::old E w0::[]) _;exact ap) ?_;refine sB Z<|sQ<|bg Z<|sP (dq (r:=false) Z Z Z)<|sM Z<|iC Z<|eJ (nw Z Z ai)<|sP (aS Z Z Z)<|sN<|ak Z<|ah<|sT<|bg Z ?_
    refine dA Z<|bX 0 Z<|aE Z Z Z Z<|sM Z ?_
    refine ch Z (qA (ke:=kept) (pa:=0) d7.kb (by unfold i64;omega)) (Ent.cons gfE3) ?_;rintro v m ⟨rfl,σ3,LK,rfl⟩;refine az ?_;refine al (l':=eN h d none::ar d σ3::row 54 3 (.slice A5 Y.length c5) Y.length (Y.flatMap dz)::dD w h dl (.slice A' ns.length c') 2 K O yv 2 R.state (.slice A2 R.Lv.length c2) (.slice A4 R.Lv.length c4)::row 78 4 K I.length (bO I)::cM O T::aU yv (List.replicate ns.length 0)::nodesOwn (.slice A' ns.length c') ns::old E w0::[]) (by show Ent (eN h d none::ar d σ3::dT f2 e2 j2::aG e2 p2 S2::aM j2 d ⟨nb+1,false,0⟩::row 54 3 (.slice A5 Y.length c5) Y.length (Y.flatMap dz)::dD w h dl (.slice A' ns.length c') 2 K O yv 2 R.state (.slice A2 R.Lv.length c2) (.slice A4 R.Lv.length c4)::row 78 4 K I.length (bO I)::cM O T::aU yv (List.replicate ns.length 0)::nodesOwn (.slice A' ns.length c') ns::old E w0::[]) _;exact ap) ?_;refine sN<|sQ<|sZ Z<|eI Z Z<|dv 0 Z Z Z<|bZ Z (aF Z) (ag Z) ?_
    refine cK 4 Z<|cF Z eB aN ?_
    rintro v m ⟨rfl,rfl⟩;refine aB<|dK [true] (aa (ag Z) ab) ?_
    refine cK 5 Z<|cF Z (qz ai LK (d7.smal ai) d7.reds) aN ?_
    rintro v m ⟨rfl,f4,e4,j4,p4,rfl⟩;refine bH<|dK [false] ab<|dr 6 Z (aQ Z)<|dE<|sT<|sS<|dS 0 Z Z<|aE Z Z Z Z ?_
    refine ch Z (pi (S:=S2.rd) (τ:=FK.Km S2.tms) (λ_=>rfl) (by show S2.tms.length<=100000;have:=d9.sec.lone.ok.tmsLe;omega) (FK.uK d9.sec.lone.ok.tnd)) aN ?_;rintro v m ⟨Y',LW,-,rfl⟩;refine jK ?_;obtain rfl:Y=Y':=FR.Srt.unique hY LW;refine aI .head ?_;rintro A6 c6 rfl LX LY - - -
    refine al (l':=bN h d f4::dT f4 e4 j4::aG e4 p4 (S2.rd)::aM j4 d ⟨nb+1,false,0⟩::ar d σ3::row 54 3 (.slice A6 Y.length c6) Y.length (Y.flatMap dz)::row 54 3 (.slice A5 Y.length c5) Y.length (Y.flatMap dz)::dD w h dl (.slice A' ns.length c') 2 K O yv 2 R.state (.slice A2 R.Lv.length c2) (.slice A4 R.Lv.length c4)::row 78 4 K I.length (bO I)::cM O T::aU yv (List.replicate ns.length 0)::nodesOwn (.slice A' ns.length c') ns::old E w0::[]) (by show Ent (row 54 3 (.slice A6 Y.length c6) Y.length (Y.flatMap dz)::bN h d f4::dT f4 e4 j4::aG e4 p4 (S2.rd)::aM j4 d ⟨nb+1,false,0⟩::ar d σ3::row 54 3 (.slice A5 Y.length c5) Y.length (Y.flatMap dz)::dD w h dl (.slice A' ns.length c') 2 K O yv 2 R.state (.slice A2 R.Lv.length c2) (.slice A4 R.Lv.length c4)::row 78 4 K I.length (bO I)::cM O T::aU yv (List.replicate ns.length 0)::nodesOwn (.slice A' ns.length c') ns::old E w0::[]) _;exact ap) ?_;refine sB Z ?_;refine sQ<|cT (X:=Nat×Option Addr×Nat×Option Addr×Nat) (λx=>[(17,.int .i64 0),(16,aX x.1),(15,.slice A6 Y.length c6),(13,.int .i64 0),(12,.slice A5 Y.length c5),(9,.int .i64 (i:Int)),(8,aX w),(0,.slice (some ⟨bE,oE,none⟩) evs.length c3),(1,.int .i64 d6),(2,.int .i64 kept),(6,.bool false)]) (λx=>blk x.1 32 (dh 2 R2.state (.slice x.2.1 R2.Lv.length x.2.2.1) (.slice x.2.2.2.1 R2.Lv.length x.2.2.2.2)).toArray::bN h d f4::dT f4 e4 j4::aG e4 p4 (S2.rd)::aM j4 d ⟨nb+1,false,0⟩::ar d σ3::row 54 3 (.slice A6 Y.length c6) Y.length (Y.flatMap dz)::row 54 3 (.slice A5 Y.length c5) Y.length (Y.flatMap dz)::dD w h dl (.slice A' ns.length c') 2 K O yv 2 R.state (.slice A2 R.Lv.length c2) (.slice A4 R.Lv.length c4)::row 78 4 K I.length (bO I)::cM O T::aU yv (List.replicate ns.length 0)::nodesOwn (.slice A' ns.length c') ns::old E w0::[]) (λ_=>True) ?_ ?_
    ·
     refine sZ Z<|eI Z Z<|dv 0 Z Z Z<|bZ Z (aF Z) (ag Z)<|cJ Z Z<|dv 3 Z Z Z<|bZ Z (aF Z) (ag Z) ?_
     refine fo 8 12 Z Z Z Z eP (cF Z (gA d7.sec.lone.ok d7.sec.lone.get) aN ?_) (cX (z:=.agg #[.int .u64 0,.int .i64 0,.slice none 0 0,.slice none 0 0]) Z λd8=>?_)
     ·
      rintro v m ⟨A7,c7,A8,c8,rfl,rfl⟩;refine iV<|dK [false,false] ab<|dr 9 Z (bn Z)<|bF Z (bA Z Z)<|bF Z (bA Z Z)<|tV Z (cX (z:=.agg #[.int .u64 0,.int .i64 0,.slice none 0 0,.slice none 0 0]) Z λd8=>(dK [] ab ?_))
      refine cK 13 Z<|aZ Z (m:=4) (vs:=dh 2 R2.state (.slice A7 R2.Lv.length c7) (.slice A8 R2.Lv.length c8)) Z Z Z Z fx (by show 0+4<=4;omega) ?_
      exact aD d8 (dh 2 R2.state (.slice A7 R2.Lv.length c7) (.slice A8 R2.Lv.length c8)).toArray Z<|dK [] ab<|dr 14 Z (aQ Z)<|dE<|bd (d8,A7,c7,A8,c8) trivial cf ap
     ·
      refine dK [true,true] (aa (ag Z) (aa (ag Z) ab))<|cK 8 Z<|cF Z (gA d7.sec.lone.ok d7.sec.lone.get) jj ?_
      rintro v m ⟨A7,c7,A8,c8,rfl,rfl⟩;refine iV<|dK [false,false] ab<|dr 9 Z (bn Z)<|bF Z (bA Z Z)<|bF Z (bA Z Z) ?_
      refine cK 13 Z<|aZ Z (m:=4) (vs:=dh 2 R2.state (.slice A7 R2.Lv.length c7) (.slice A8 R2.Lv.length c8)) Z Z Z Z fx (by show 0+4<=4;omega) ?_
      exact aD d8 (dh 2 R2.state (.slice A7 R2.Lv.length c7) (.slice A8 R2.Lv.length c8)).toArray Z<|dK [] ab<|dr 14 Z (aQ Z)<|dE<|bd (d8,A7,c7,A8,c8) trivial cf ap
    rintro⟨d8,A7,c7,A8,c8⟩ -
    refine al (l':=bN h d f4::dT f4 e4 j4::aG e4 p4 (S2.rd)::aM j4 d ⟨nb+1,false,0⟩::ar d σ3::blk d8 32 (dh 2 R2.state (.slice A7 R2.Lv.length c7) (.slice A8 R2.Lv.length c8)).toArray::row 54 3 (.slice A6 Y.length c6) Y.length (Y.flatMap dz)::row 54 3 (.slice A5 Y.length c5) Y.length (Y.flatMap dz)::dD w h dl (.slice A' ns.length c') 2 K O yv 2 R.state (.slice A2 R.Lv.length c2) (.slice A4 R.Lv.length c4)::row 78 4 K I.length (bO I)::cM O T::aU yv (List.replicate ns.length 0)::nodesOwn (.slice A' ns.length c') ns::old E w0::[]) (by show Ent (blk d8 32 (dh 2 R2.state (.slice A7 R2.Lv.length c7) (.slice A8 R2.Lv.length c8)).toArray::bN h d f4::dT f4 e4 j4::aG e4 p4 (S2.rd)::aM j4 d ⟨nb+1,false,0⟩::ar d σ3::row 54 3 (.slice A6 Y.length c6) Y.length (Y.flatMap dz)::row 54 3 (.slice A5 Y.length c5) Y.length (Y.flatMap dz)::dD w h dl (.slice A' ns.length c') 2 K O yv 2 R.state (.slice A2 R.Lv.length c2) (.slice A4 R.Lv.length c4)::row 78 4 K I.length (bO I)::cM O T::aU yv (List.replicate ns.length 0)::nodesOwn (.slice A' ns.length c') ns::old E w0::[]) _;exact ap) ?_;refine sQ<|cT (X:=Nat×Option Addr×Nat×Option Addr×Nat) (λx=>[(18,aX x.1),(17,.int .i64 0),(16,aX d8),(15,.slice A6 Y.length c6),(13,.int .i64 0),(12,.slice A5 Y.length c5),(9,.int .i64 (i:Int)),(8,aX w),(0,.slice (some ⟨bE,oE,none⟩) evs.length c3),(1,.int .i64 d6),(2,.int .i64 kept),(6,.bool false)]) (λx=>blk x.1 32 (dh 2 R2.state (.slice x.2.1 R2.Lv.length x.2.2.1) (.slice x.2.2.2.1 R2.Lv.length x.2.2.2.2)).toArray::blk d8 32 (dh 2 R2.state (.slice A7 R2.Lv.length c7) (.slice A8 R2.Lv.length c8)).toArray::bN h d f4::dT f4 e4 j4::aG e4 p4 (S2.rd)::aM j4 d ⟨nb+1,false,0⟩::ar d σ3::row 54 3 (.slice A6 Y.length c6) Y.length (Y.flatMap dz)::row 54 3 (.slice A5 Y.length c5) Y.length (Y.flatMap dz)::dD w h dl (.slice A' ns.length c') 2 K O yv 2 R.state (.slice A2 R.Lv.length c2) (.slice A4 R.Lv.length c4)::row 78 4 K I.length (bO I)::cM O T::aU yv (List.replicate ns.length 0)::nodesOwn (.slice A' ns.length c') ns::old E w0::[]) (λ_=>True) ?_ ?_
    ·
     refine sZ Z<|eI Z Z<|dv 0 Z Z Z<|bZ Z (aF Z) (ag Z)<|cJ Z Z<|dv 3 Z Z Z<|bZ Z (aF Z) (ag Z) ?_
     refine fo 8 12 Z Z Z Z eP (cF Z (gA d7.sec.lone.ok d7.sec.lone.get) aN ?_) (cX (z:=.agg #[.int .u64 0,.int .i64 0,.slice none 0 0,.slice none 0 0]) Z λmt=>?_)
     ·
      rintro v m ⟨A9,c9,f7,f8,rfl,rfl⟩;refine iV<|dK [false,false] ab<|dr 9 Z (bn Z)<|bF Z (bA Z Z)<|bF Z (bA Z Z)<|tV Z (cX (z:=.agg #[.int .u64 0,.int .i64 0,.slice none 0 0,.slice none 0 0]) Z λmt=>(dK [] ab ?_))
      refine cK 13 Z<|aZ Z (m:=4) (vs:=dh 2 R2.state (.slice A9 R2.Lv.length c9) (.slice f7 R2.Lv.length f8)) Z Z Z Z fx (by show 0+4<=4;omega) ?_
      exact aD mt (dh 2 R2.state (.slice A9 R2.Lv.length c9) (.slice f7 R2.Lv.length f8)).toArray Z<|dK [] ab<|dr 14 Z (aQ Z)<|dE<|bd (mt,A9,c9,f7,f8) trivial cf ap
     ·
      refine dK [true,true] (aa (ag Z) (aa (ag Z) ab))<|cK 8 Z<|cF Z (gA d7.sec.lone.ok d7.sec.lone.get) jj ?_
      rintro v m ⟨A9,c9,f7,f8,rfl,rfl⟩;refine iV<|dK [false,false] ab<|dr 9 Z (bn Z)<|bF Z (bA Z Z)<|bF Z (bA Z Z) ?_
      refine cK 13 Z<|aZ Z (m:=4) (vs:=dh 2 R2.state (.slice A9 R2.Lv.length c9) (.slice f7 R2.Lv.length f8)) Z Z Z Z fx (by show 0+4<=4;omega) ?_
      exact aD mt (dh 2 R2.state (.slice A9 R2.Lv.length c9) (.slice f7 R2.Lv.length f8)).toArray Z<|dK [] ab<|dr 14 Z (aQ Z)<|dE<|bd (mt,A9,c9,f7,f8) trivial cf ap
    rintro⟨mt,A9,c9,f7,f8⟩ -
    refine al (l':=blk mt 32 (dh 2 R2.state (.slice A9 R2.Lv.length c9) (.slice f7 R2.Lv.length f8)).toArray::blk d8 32 (dh 2 R2.state (.slice A7 R2.Lv.length c7) (.slice A8 R2.Lv.length c8)).toArray::bN h d f4::dT f4 e4 j4::aG e4 p4 (S2.rd)::aM j4 d ⟨nb+1,false,0⟩::ar d σ3::row 54 3 (.slice A6 Y.length c6) Y.length (Y.flatMap dz)::row 54 3 (.slice A5 Y.length c5) Y.length (Y.flatMap dz)::dD w h dl (.slice A' ns.length c') 2 K O yv 2 R.state (.slice A2 R.Lv.length c2) (.slice A4 R.Lv.length c4)::row 78 4 K I.length (bO I)::cM O T::aU yv (List.replicate ns.length 0)::nodesOwn (.slice A' ns.length c') ns::old E w0::[]) aN ?_;refine sQ<|bg Z<|sP (dq (r:=false) Z Z Z)<|sM Z<|iC Z<|eJ (dq (r:=false) Z Z Z)<|sP (aS Z Z Z)<|sM Z<|iC Z<|eJ (bh Z Z)<|iC Z<|eJ (bh Z Z)<|eJ (dq (r:=false) Z Z cP)<|sP (aS Z Z Z)<|sM Z<|eJ (bL 1 Z)<|mJ (aF (v:=.int .i64 R2.state) Z) (ag Z)<|eJ (bL 1 Z) ?_
    refine mJ (aF (v:=.int .i64 R2.state) Z) (ag Z)<|eJ (dq (r:=false) Z Z cP)<|sP (aS Z Z Z)<|sN<|ak Z<|ah<|sT<|sS<|sB Z<|aj ?_
    refine aL (X:=Nat) (λk=>[(20,.int .i64 (k:Int)),(15,.slice A6 Y.length c6),(13,.int .i64 0),(12,.slice A5 Y.length c5),(9,.int .i64 (i:Int)),(8,aX w),(0,.slice (some ⟨bE,oE,none⟩) evs.length c3),(1,.int .i64 d6),(2,.int .i64 kept),(6,.bool false)]) (λ_=>row 54 3 (.slice A6 Y.length c6) Y.length (Y.flatMap dz)::row 54 3 (.slice A5 Y.length c5) Y.length (Y.flatMap dz)::bN h d f4::dT f4 e4 j4::aG e4 p4 (S2.rd)::aM j4 d ⟨nb+1,false,0⟩::ar d σ3::dD w h dl (.slice A' ns.length c') 2 K O yv 2 R.state (.slice A2 R.Lv.length c2) (.slice A4 R.Lv.length c4)::row 78 4 K I.length (bO I)::cM O T::aU yv (List.replicate ns.length 0)::nodesOwn (.slice A' ns.length c') ns::old E w0::[]) (λk=>k<=Y.length) (λk=>Y.length-k) 0 (Nat.zero_le _) cf (by show Ent (_::_::bN h d f4::dT f4 e4 j4::aG e4 p4 (S2.rd)::aM j4 d ⟨nb+1,false,0⟩::ar d σ3::row 54 3 (.slice A6 Y.length c6) Y.length (Y.flatMap dz)::row 54 3 (.slice A5 Y.length c5) Y.length (Y.flatMap dz)::dD w h dl (.slice A' ns.length c') 2 K O yv 2 R.state (.slice A2 R.Lv.length c2) (.slice A4 R.Lv.length c4)::row 78 4 K I.length (bO I)::cM O T::aU yv (List.replicate ns.length 0)::nodesOwn (.slice A' ns.length c') ns::old E w0::[]) _;exact ap) ?_;rintro k hk;replace hk:k<=Y.length:=hk;refine al (l':=row 54 3 (.slice A6 Y.length c6) Y.length (Y.flatMap dz)::row 54 3 (.slice A5 Y.length c5) Y.length (Y.flatMap dz)::bN h d f4::dT f4 e4 j4::aG e4 p4 (S2.rd)::aM j4 d ⟨nb+1,false,0⟩::ar d σ3::dD w h dl (.slice A' ns.length c') 2 K O yv 2 R.state (.slice A2 R.Lv.length c2) (.slice A4 R.Lv.length c4)::row 78 4 K I.length (bO I)::cM O T::aU yv (List.replicate ns.length 0)::nodesOwn (.slice A' ns.length c') ns::old E w0::[]) aN ?_;refine sQ<|sQ ?_
    by_cases HK:k<Y.length
    ·
     refine sG<|sM Z<|cG Z (bh Z Z)<|sP (bB (r:=true) Z Z (zR (show(k:Int)<(Y.length:Int) by omega)))<|sN<|aO Z<|ah<|sT<|sQ<|aj<|sQ ?_
     obtain⟨g5,rfl⟩:∃g,A5=some ⟨g,0,none⟩:=by
      cases A5 with
      | none=>have:=(LT rfl).1;omega
      | some ad=>obtain⟨g,rfl⟩:=LU ad rfl;exact⟨g,rfl⟩
     obtain⟨g6,rfl⟩:∃g,A6=some ⟨g,0,none⟩:=by
      cases A6 with
      | none=>have:=(LX rfl).1;omega
      | some ad=>obtain⟨g,rfl⟩:=LY ad rfl;exact⟨g,rfl⟩
     obtain⟨y,hy⟩:∃y,Y[k]?=some y:=⟨Y[k],by simp[HK]⟩;refine sZ Z<|eI Z Z<|cJ Z Z<|bF Z (bp (z:=3) Z Z Z Z HK) ?_
     refine iJ 3 Z (bR (vs:=dz y) Z) (mO bM (λj u h=>by rw[Nat.zero_add];exact gW (f:=dz) (k:=3) (λ_=>rfl) j hy h)) ?_;refine dr 4 Z (bn Z)<|cJ Z Z<|bF Z (bp (z:=3) Z Z Z Z HK) ?_
     refine iJ 7 Z (bR (vs:=dz y) Z) (mO .head (λj u h=>by rw[Nat.zero_add];exact gW (f:=dz) (k:=3) (λ_=>rfl) j hy h)) ?_;refine dr 8 Z (w5 (r:=false) Z eP eP Z Z (eqTmr y) Z)<|dE<|sT<|ak Z<|ah<|am<|sT<|sG<|cG Z (aT (r:=((k+1:Nat):Int)) Z Z eg)<|sA Z<|aq ?_
     exact aC (k+1) (show k+1<=Y.length by omega) (by show Y.length-(k+1)<Y.length-k;omega) cf aN
    ·
     refine sG<|sM Z<|cG Z (bh Z Z)<|sP (bB (r:=false) Z Z (Dg (show ¬(k:Int)<(Y.length:Int) by omega)))<|sN<|ak Z<|aK<|av<|au<|ao<|am<|sT<|sG<|cG Z (aT (r:=((i+1:Nat):Int)) Z Z eg)<|sA Z<|aq<|aC ⟨i+1,nb+1,f4,e4,j4,p4,S2,S2.rd,R2,[],T,LJ,I,σ3,K,O,2,R.state,(.slice A2 R.Lv.length c2),(.slice A4 R.Lv.length c4)⟩ ⟨HI,d7.lost LK,Nat.succ_le_succ t8,wf,BT⟩ (by show evs.length-(i+1)<evs.length-i;omega) cf ?_
     show Ent (row 54 3 (.slice A6 Y.length c6) Y.length (Y.flatMap dz)::row 54 3 (.slice A5 Y.length c5) Y.length (Y.flatMap dz)::bN h d f4::dT f4 e4 j4::aG e4 p4 (S2.rd)::aM j4 d ⟨nb+1,false,0⟩::ar d σ3::dD w h dl (.slice A' ns.length c') 2 K O yv 2 R.state (.slice A2 R.Lv.length c2) (.slice A4 R.Lv.length c4)::row 78 4 K I.length (bO I)::cM O T::aU yv (List.replicate ns.length 0)::nodesOwn (.slice A' ns.length c') ns::old E w0::[]) (bN h d f4::dT f4 e4 j4::aG e4 p4 (S2.rd)::aM j4 d ⟨nb+1,false,0⟩::ar d σ3::dD w h dl (.slice A' ns.length c') 2 K O yv 2 R.state (.slice A2 R.Lv.length c2) (.slice A4 R.Lv.length c4)::row 78 4 K I.length (bO I)::cM O T::aU yv (List.replicate ns.length 0)::nodesOwn (.slice A' ns.length c') ns::old E w0::[]);exact ap
   ·
    exact ah<|am<|sT<|sG<|cG Z (aT (r:=((i+1:Nat):Int)) Z Z eg)<|sA Z<|aq<|aC ⟨i+1,nb,f2,e2,j2,p2,B,S2,R2,l2,T,LJ,I,σ2,K,O,2,R.state,(.slice A2 R.Lv.length c2),(.slice A4 R.Lv.length c4)⟩ ⟨HI,d9,Nat.le_succ_of_le t8,wf,BT⟩ (by show evs.length-(i+1)<evs.length-i;omega) cf aN
  ·
   refine sG<|sM Z<|cG Z (bh Z Z)<|sP (bB (r:=false) Z Z (Dg (show ¬(i:Int)<(evs.length:Int) by omega)))<|sN<|ak Z<|aK<|av<|au<|ao<|sT<|sS<|sB Z<|an<|aw [] rfl Z ⟨rfl,rfl⟩ ?_
   show Ent _ [old E w0];exact ap
 ·
  refine sG<|cG Z (ez Z Z Z)<|sM Z<|iC Z<|eJ (bh Z Z)<|eJ (nu Z Z ai)<|sP (aS Z Z Z)<|sN<|aO Z<|bg Z<|sP (BC Z Z Z)<|sB Z<|an<|aH ?_
  refine aw [] rfl Z ⟨rfl,rfl⟩ ?_;show Ent _ [old E w0];exact ap
end Go.Y
