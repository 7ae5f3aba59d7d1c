/- engine.Read. -/
import Derived.Test.YtkckgjpkkbkkgaaGreatDoorCoI
import Derived.Test.YtkckgjpkkbkkgaaGreatDoorCoB
import Derived.Test.YtkckgjpkkbkkgaaGreatDoorCoH
import Derived.Test.YtkckgjpkkbkkgaaGreatDoorCoD
import Derived.Test.YtkckgjpkkbkkgaaGreatDoorCoE
import Derived.BigQuiet
import Derived.Test.YtkckgjpkkbkkgaaGreatDoorCoC
import Derived.Test.YtkckgjpkkbkkgaaGreatDoorCoF
set_option maxHeartbeats 4000000
set_option maxRecDepth 20000
namespace FK
section
variable {id j k:Nat} {S:En} {R:Rn} {s:Sp}
def En.hd (a b c d e:Nat):En:=⟨a,b,c,d,e,[],[],[],[],0⟩
theorem DS (S:En) (k id:Nat) (R:Rn):S.rdIn k id R 0=S.rdTo k:=by
 unfold En.rdIn En.rdTo qN;simp
theorem Gz (h:R.Lv[j]?=some s) (h3:s.state=3):S.rdIn k id R (j+1)={S.rdIn k id R j with Ly:=(S.rdIn k id R j).Ly++[(s.token,⟨id,(j:Int),0⟩)]}:=by
 unfold En.rdIn;rw[uH h,if_pos h3];simp[List.append_assoc]
theorem IZ (h:R.Lv[j]?=some s) (h3:¬s.state=3):S.rdIn k id R (j+1)=S.rdIn k id R j:=by
 unfold En.rdIn;rw[uH h,if_neg h3,List.append_nil]
theorem DP (h:S.runs[k]?=some (id,R)):S.rdTo (k+1)={S.rdIn k id R R.Lv.length with runs:=(S.rdIn k id R R.Lv.length).runs++[(id,R)]}:=by
 unfold En.rdIn En.rdTo;rw[Go.Y.fB h];simp[tW]
theorem Gy {q:Pl} (h:S.Lx[k]?=some q):S.rdQ (k+1)={S.rdQ k with Lx:=(S.rdQ k).Lx++[q]}:=by
 unfold En.rdQ;rw[Go.Y.fB h]
theorem IY (S:En):S.rdQ S.Lx.length=S.rdT 0:=by
 unfold En.rdQ En.rdT En.rdTo;simp
theorem Gx {x:KD} (I:(S.tms.map (·.1)).Nodup) (h:S.tms[k]?=some x):S.rdT (k+1)=(S.rdT k).setT x.1 x.2:=by
 unfold En.rdT En.setT;rw[Go.Y.fB h];have T:(S.tms.take k).filter (λy=>y.1 !=x.1)=S.tms.take k:=by
  refine List.filter_eq_self.2 λy K=>?_;obtain⟨i,hi⟩:=List.getElem?_of_mem K;rw[List.getElem?_take] at hi
  split at hi
  · rename_i O
    simp only[bne_iff_ne];intro e;have E:(S.tms.map (·.1))[i]?=some x.1:=by rw[List.getElem?_map,hi];exact congrArg some e
    have Y:(S.tms.map (·.1))[k]?=some x.1:=by rw[List.getElem?_map,h];rfl
    have:=(List.getElem?_inj (gfGet.1 E).1 I).1 (E.trans Y.symm);omega
  · cases hi
 simp only[T]
theorem Svd.fresh (h:Svd S) (hk:S.runs[k]?=some (id,R)) (hs:R.Lv[j]?=some s) (h3:s.state=3):∀t∈(S.rdIn k id R j).Ly,t.1≠s.token:=by
 intro t K e;have hR:=h.ok.at (du hk);have O:=h.ok.ofTask hR hs h3;rcases List.mem_append.1 K with K|K
 · obtain⟨r,hr,i,u,Y,E,rfl⟩:=xy K
   have d6:=List.mem_of_mem_take hr;have:=h.ok.ofTask (h.ok.at d6) Y E;simp only at e;rw[e] at this;have I:=h.ok.oneTask this O;injection I with I _ _;obtain⟨m,T⟩:=List.getElem?_of_mem hr;rw[List.getElem?_take] at T
   split at T
   · rename_i d8
     have h1:(S.runs.map (·.1))[m]?=some id:=by rw[List.getElem?_map,T,<-I];rfl
     have h2:(S.runs.map (·.1))[k]?=some id:=by rw[List.getElem?_map,hk];rfl
     have:=(List.getElem?_inj (gfGet.1 h1).1 h.ok.ids).1 (h1.trans h2.symm);omega
   · cases T
 · obtain⟨i,u,d7,Y,E,rfl⟩:=oN K
   have:=h.ok.ofTask hR Y E;simp only at e;rw[e] at this;have I:=h.ok.oneTask this O;injection I with _ I _;omega
theorem Svd.freshR (h:Svd S) (K:S.runs[k]?=some (id,R)):∀r∈(S.rdIn k id R R.Lv.length).runs,r.1≠id:=by
 intro r O e;obtain⟨m,E⟩:=List.getElem?_of_mem (show r∈S.runs.take k from O);rw[List.getElem?_take] at E
 split at E
 · rename_i T
   have I:(S.runs.map (·.1))[m]?=some id:=by rw[List.getElem?_map,E,<-e];rfl
   have Y:(S.runs.map (·.1))[k]?=some id:=by rw[List.getElem?_map,K];rfl
   have:=(List.getElem?_inj (gfGet.1 I).1 h.ok.ids).1 (I.trans Y.symm);omega
 · cases E
theorem Dv (R:Rn) (r:List UInt8):gF R R.Lv.length++r=r:=by
 unfold gF;simp
end
end FK
namespace Go.Y
open Go.Proofs
open Go Go.RowKit Go.SL
theorem JB (x:Operand) (vs:List Value) (h:vs.length=3):Instr.fill (λi=>some (i*3,3)) (Array.map (λx=>(Value.agg #[.int .i64 0,.int .i64 0,.int .u64 0]).cells[x%(Value.agg #[.int .i64 0,.int .i64 0,.int .u64 0]).cells.size]!) (Array.range (1*3))) ((List.map (λx=>x.fst) [((0:Nat),x)]).zip [.agg vs.toArray])=some vs.toArray:=by
 have e1:Array.range (1*3)=#[0,1,2]:=rfl;rw[e1]
 match vs,h with
 | [a,b,c],_=>simp[Instr.fill,Value.cells]
theorem Gk {l:List FK.Sp} {j:Nat} {s:FK.Sp} (h:l[j]?=some s):oy (l.take j)++n7 s=oy (l.take (j+1)):=by
 rw[fB h];unfold oy;simp
theorem Kn {n k:Nat} (h:k<n) (E:n<=100000):IntKind.u64.wrap (((n-k:Nat):Int)-1)=((n-(k+1):Nat):Int):=by
 have e:((n-k:Nat):Int)-1=((n-(k+1):Nat):Int):=ai;rw[e];exact SL.wu64 ⟨ai,ai⟩
theorem unU {x:Int} (E:0<=x) (I:x<9223372036854775808):IntKind.i64.wrap ((x.toNat:Nat):Int)=x:=by
 rw[iI ai];omega
theorem BE {pb:HP} {A:Option Addr} {c:Nat} {S:FK.En} (hS:FK.Svd S) (LB:∀x∈S.tms,S.now<=x.2) (hp:Reads pb A (FK.iX S)) (hc:(FK.iX S).length<=c):eh 56 [.slice A (FK.iX S).length c] [pb] λv m=>∃e p,v=aX e/\m=[aG e p S.rd,pb]:=by
 have Mk:=hS.len;have Ml:=hS.ok.six;have MA:=hS.ok.queueLe;have MB:=hS.ok.tmsLe;have LH:=FK.oY hS;have LJ:=hS.ok.now;simp only[FK.jS,List.mem_cons,List.not_mem_nil,or_false,forall_eq_or_imp,forall_eq] at LH;obtain⟨LQ,LR,LS,LT,LU,LV⟩:=LH;refine bz Tryz.func56 Z λE fr Y=>ae<|sS<|sO (cL Z Z λI=>?_)
 refine al (l':=gS I pb (FK.iX S)::pb::fr) (mF hp hc ai) ?_;refine sB Z<|sS ?_
 refine ch Z wj aN ?_;rintro v m ⟨e,p,rfl,rfl⟩;refine ae<|sB Z<|sS ?_
 refine sP (ew Z Z) ?_;refine sB Z<|bg Z<|sM Z ?_
 refine sO<|ct Z Z Z Z Y (cZ (b:=I) (m:=S.now) (r:=FK.cQ [S.seed,S.Lt,S.Ls,S.ends,S.runs.length]++FK.eo S 0) LQ) (by rw[FK.Lk];unfold FK.jS;rw[FK.dF];exact aY bM bM) ?_
 rintro v m ⟨rfl,rfl⟩;refine az ?_;refine ch Z (xM S.now) aN ?_;rintro v m ⟨w,rfl,rfl⟩;refine ae<|dA Z<|bX 6 Z<|sO<|AS (w:=w) (m:=S.now) (p:=p) (S:=FK.En.fresh) gC LJ Z Z Z ?_
 obtain⟨q0,LW⟩:∃q0,q0=({p with w:=w}:EA):=⟨_,rfl⟩;rw[<-LW];refine al (l':=aG e q0 (FK.En.hd S.now 0 0 0 0)::gS I pb (FK.cQ [S.seed,S.Lt,S.Ls,S.ends,S.runs.length]++FK.eo S 0)::pb::fr) aN ?_;refine sN<|bg Z<|sM Z<|sM Z<|sM Z<|sM Z ?_
 refine sO<|ct Z Z Z Z Y (cZ (b:=I) (m:=S.seed) (r:=FK.cQ [S.Lt,S.Ls,S.ends,S.runs.length]++FK.eo S 0) LR) (by rw[FK.dF];exact aY bM bM) ?_
 rintro v m ⟨rfl,rfl⟩;refine az<|sM Z ?_
 refine sO<|ct Z Z Z Z Y (cZ (b:=I) (m:=S.Lt) (r:=FK.cQ [S.Ls,S.ends,S.runs.length]++FK.eo S 0) LS) (by rw[FK.dF];exact aN) ?_
 rintro v m ⟨rfl,rfl⟩;refine az<|sM Z ?_
 refine sO<|ct Z Z Z Z Y (cZ (b:=I) (m:=S.Ls) (r:=FK.cQ [S.ends,S.runs.length]++FK.eo S 0) LT) (by rw[FK.dF];exact aN) ?_
 rintro v m ⟨rfl,rfl⟩;refine az<|sM Z ?_
 refine sO<|ct Z Z Z Z Y (cZ (b:=I) (m:=S.ends) (r:=FK.cQ [S.runs.length]++FK.eo S 0) LU) (by rw[FK.dF];exact aN) ?_
 rintro v m ⟨rfl,rfl⟩;refine az<|dA Z<|bX 0 Z ?_
 refine sO<|kZ (S:=FK.En.hd S.now 0 0 0 0) (S':=FK.En.hd S.now S.seed 0 0 0) Z Z Z ai Z (λ_ _ _=>rfl) Z Z Z Z Z Z ?_
 refine dA Z<|bX 7 Z ?_
 refine sO<|kZ (S:=FK.En.hd S.now S.seed 0 0 0) (S':=FK.En.hd S.now S.seed S.Lt 0 0) Z Z Z ai Z (λ_ _ _=>rfl) Z Z Z Z Z Z ?_
 refine dA Z<|bX 8 Z ?_
 refine sO<|kZ (S:=FK.En.hd S.now S.seed S.Lt 0 0) (S':=FK.En.hd S.now S.seed S.Lt S.Ls 0) Z Z Z ai Z (λ_ _ _=>rfl) Z Z Z Z Z Z ?_
 refine dA Z<|bX 9 Z ?_
 refine sO<|kZ (S:=FK.En.hd S.now S.seed S.Lt S.Ls 0) (S':=FK.En.hd S.now S.seed S.Lt S.Ls S.ends) Z Z Z ai Z (λ_ _ _=>rfl) Z Z Z Z Z Z ?_
 refine al (l':=aG e q0 (S.rdTo 0)::gS I pb (FK.cQ [S.runs.length]++FK.eo S 0)::pb::fr) aN ?_;refine sN<|sQ<|bg Z ?_
 refine sO<|ct Z Z Z Z Y (cZ (b:=I) (m:=S.runs.length) (r:=FK.eo S 0) LV) (by rw[FK.dF];exact aY bM bM) ?_
 rintro v m ⟨rfl,rfl⟩;refine az<|sB Z<|aj ?_
 refine aL (X:=Nat×EA) (λx=>[(5,.int .u64 ((S.runs.length-x.1:Nat):Int)),(4,B0 I),(3,aX e),(1,aX I)]) (λx=>gS I pb (FK.eo S x.1)::pb::aG e x.2 (S.rdTo x.1)::fr) (λx=>x.1<=S.runs.length) (λx=>S.runs.length-x.1) (0,q0) (Nat.zero_le _) cf aN ?_;rintro⟨k,p⟩ hk;replace hk:k<=S.runs.length:=hk;refine al (l':=gS I pb (FK.eo S k)::pb::aG e p (S.rdTo k)::fr) aN ?_;refine sQ<|bg Z<|sP (eS Z Z Z)<|sN ?_
 refine aA Z (λt8=>?_) λt8=>?_
 ·
  have d8:k<S.runs.length:=by have:(0:Int)<((S.runs.length-k:Nat):Int):=t8;omega
  obtain⟨⟨id,R⟩,f9⟩:∃x,S.runs[k]?=some x:=⟨S.runs[k],by simp[d8]⟩;have hR:=hS.ok.at (du f9);have LK:=hS.ok.run _ _ hR;obtain⟨Mo,LE,Mj,Mp,Mq,Mr⟩:=FK.mU hS hR;have mt:FK.Fit R.fl:=LK.fl;have MC:=LK.len;have MD:=mt.head.2.1;have Fd:=FK.Au f9;have t6:0<(FK.bo R.fl).length:=by unfold FK.bo;simp only[List.length_append];have:=FK.x9 R.fl.deadline.toNat;omega
  refine ah<|sT<|sQ<|aj<|bg Z ?_
  refine sO<|ct Z Z Z Z Y (cZ (b:=I) (m:=id) (r:=FK.cQ [R.state.toNat,R.ended,(FK.bo R.fl).length]++(FK.bo R.fl++(FK.gF R 0++FK.eo S (k+1)))) ai) (by rw[Fd,FK.dF];exact aN) ?_
  rintro v m ⟨rfl,rfl⟩;refine az<|sB Z<|bg Z ?_
  refine sO<|ct Z Z Z Z Y (cZ (b:=I) (m:=R.state.toNat) (r:=FK.cQ [R.ended,(FK.bo R.fl).length]++(FK.bo R.fl++(FK.gF R 0++FK.eo S (k+1)))) ai) (by rw[FK.dF];exact aN) ?_
  rintro v m ⟨rfl,rfl⟩;refine az<|sP (bJ (r:=R.state) Z Z Z (unU LE ai))<|sM Z ?_
  refine sO<|ct Z Z Z Z Y (cZ (b:=I) (m:=R.ended) (r:=FK.cQ [(FK.bo R.fl).length]++(FK.bo R.fl++(FK.gF R 0++FK.eo S (k+1)))) ai) (by rw[FK.dF];exact aN) ?_
  rintro v m ⟨rfl,rfl⟩;refine az<|sP (bT (ps:=[(1,.tmp 52),(3,.tmp 54)]) (vs:=[.int .i64 R.state,aV R.ended]) (cs:=#[.int .i64 0,.slice none 0 0,.int .i64 R.state,.slice none 0 0,aV R.ended]) Z Z Z Z Z)<|sO (cL Z Z λK=>(sB Z (sS (sM Z ?_))))
  refine sO<|ct Z Z Z Z Y (cZ (b:=I) (m:=(FK.bo R.fl).length) (r:=FK.bo R.fl++(FK.gF R 0++FK.eo S (k+1))) ai) (by rw[FK.dF];exact aY bM bM) ?_
  rintro v m ⟨rfl,rfl⟩;refine az<|sB Z<|sQ (n5 λA1 c1 wf LC LM=>?_)
  obtain⟨g1,o1,rfl⟩:=wf.form (by intro h;rw[List.append_eq_nil_iff] at h;rw[h.1] at t6;simp at t6);have L6:Reads pb (some ⟨g1,o1,none⟩) (FK.bo R.fl):=by have:=wf.head (FK.bo R.fl).length;rwa [List.take_left'  rfl] at this
  have t7:=wf.cut (k:=(FK.bo R.fl).length) LC;rw[List.drop_left' rfl] at t7;have hN:(FK.bo R.fl++(FK.gF R 0++FK.eo S (k+1))).length=(FK.bo R.fl).length+(FK.gF R 0++FK.eo S (k+1)).length:=List.length_append;obtain⟨N,LX⟩:∃N,N=(FK.bo R.fl++(FK.gF R 0++FK.eo S (k+1))).length:=⟨_,rfl⟩;rw[<-LX] at hN LC LM ⊢;refine sG<|sM Z<|aE Z Z Z Z<|cG Z (Ko (v':=.slice (some ⟨g1,o1,none⟩) (FK.bo R.fl).length c1) (eG (z:=1) (a:=0) (b:=(FK.bo R.fl).length) Z Z Z Z ⟨_,rfl⟩ (Nat.zero_le _) ai) (by simp only[Nat.sub_zero,Nat.zero_mul,Option.map_some,jU,Nat.add_zero,ite_self])) ?_
  refine ch Z (BN L6 t6 ai) gfE1 ?_;rintro v m rfl;refine az<|aI .head ?_
  rintro L5 LG rfl fa fb - - -
  refine ch Z (pL (Reads.row (c:=LG) (FY fa fb)) ai) aN ?_;rintro v m hv;obtain⟨A7,O,rfl,rfl⟩:∃A7 O,v=.tuple #[.agg #[.int .i64 R.fl.deadline,.slice A7 R.fl.Lw.length O],.nilIface]/\m=[nodesOwn (.slice A7 R.fl.Lw.length O) R.fl.Lw,bP (.slice L5 (FK.bo R.fl).length LG) (FK.bo R.fl)]:=by
   rcases hv with⟨f,A',c',h1,_,h2,h3⟩|⟨_,_,_,h1,_⟩
   · rw[FK.nz mt] at h1
     injection h1 with h1;subst h1;exact⟨A',c',h2,h3⟩
   · rw[FK.nz mt] at h1
     cases h1
  refine az<|sM Z<|bG Z Z<|bG Z Z<|dA Z<|bX 0 Z ?_
  refine sO<|aZ Z (m:=2) (vs:=[.int .i64 R.fl.deadline,.slice A7 R.fl.Lw.length O]) Z Z Z Z fx (by show 0+2<=5;omega) ?_
  refine aD K #[.int .i64 R.fl.deadline,.slice A7 R.fl.Lw.length O,.int .i64 R.state,.slice none 0 0,aV R.ended] rfl (iL bM λvs LN=>(aI .head ?_));rintro A9 c9 hA a1 a2 - - -
  obtain⟨rfl,rfl⟩:A7=A9/\O=c9:=by injection hA with x1 _ x3;exact⟨x1,x3⟩
  obtain⟨T,rfl⟩:∃g,A7=some ⟨g,0,none⟩:=by
   cases A7 with
   | none=>have:=(a1 rfl).1;omega
   | some ad=>obtain⟨g,rfl⟩:=a2 ad rfl;exact⟨g,rfl⟩
  refine al (Ent.cons (Ent.all (m:=ck vs R.fl.Lw))) ?_;refine al (l':=blk I 61 #[.slice (some ⟨g1,o1,none⟩) N c1]::blk K 148 #[.int .i64 R.fl.deadline,.slice (some ⟨T,0,none⟩) R.fl.Lw.length O,.int .i64 R.state,.slice none 0 0,aV R.ended]::pb::aG e p (S.rdTo k)::row 58 7 (.slice (some ⟨T,0,none⟩) R.fl.Lw.length O) R.fl.Lw.length (bU R.fl.Lw vs)::ey vs R.fl.Lw::fr) (by show Ent (row 58 7 (.slice (some ⟨T,0,none⟩) R.fl.Lw.length O) R.fl.Lw.length (bU R.fl.Lw vs)::ey vs R.fl.Lw::_) _;exact ap) ?_;refine sN<|sS<|aE Z Z Z Z<|cG Z (eG (z:=1) (a:=(FK.bo R.fl).length) (b:=N) Z Z Z ⟨_,rfl⟩ rfl ai ai) ?_
  refine bK Z Z Z Z ii ?_;have L7:N-(FK.bo R.fl).length=(FK.gF R 0++FK.eo S (k+1)).length:=ai;rw[L7];refine al (l':=gS I pb (FK.gF R 0++FK.eo S (k+1))::pb::blk K 148 #[.int .i64 R.fl.deadline,.slice (some ⟨T,0,none⟩) R.fl.Lw.length O,.int .i64 R.state,.slice none 0 0,aV R.ended]::row 150 3 (.slice none 0 0) 0 []::aG e p (S.rdIn k id R 0)::row 58 7 (.slice (some ⟨T,0,none⟩) R.fl.Lw.length O) R.fl.Lw.length (bU R.fl.Lw vs)::ey vs R.fl.Lw::fr) (by rw[FK.DS];exact(mF t7 ai ai).trans ((Ent.row0 (e:=150) (size:=3)).trans ap)) ?_;refine sN<|sQ<|sS<|dS 0 Z Z<|bX 1 Z<|aE Z Z Z Z<|sP (bh Z Z)<|sM Z<|sN<|aj ?_
  refine aL (X:=Nat×Value) (λx=>[(79,.int .i64 x.1),(78,.int .i64 R.fl.Lw.length),(7,aX K),(6,aV id),(5,.int .u64 ((S.runs.length-k:Nat):Int)),(4,B0 I),(3,aX e),(1,aX I)]) (λx=>gS I pb (FK.gF R x.1++FK.eo S (k+1))::pb::blk K 148 #[.int .i64 R.fl.deadline,.slice (some ⟨T,0,none⟩) R.fl.Lw.length O,.int .i64 R.state,x.2,aV R.ended]::row 150 3 x.2 x.1 (oy (R.Lv.take x.1))::aG e p (S.rdIn k id R x.1)::row 58 7 (.slice (some ⟨T,0,none⟩) R.fl.Lw.length O) R.fl.Lw.length (bU R.fl.Lw vs)::ey vs R.fl.Lw::fr) (λx=>x.1<=R.Lv.length) (λx=>R.Lv.length-x.1) (0,.slice none 0 0) (Nat.zero_le _) cf aN ?_;rintro⟨j,v2⟩ hj;replace hj:j<=R.Lv.length:=hj;refine al (l':=gS I pb (FK.gF R j++FK.eo S (k+1))::pb::blk K 148 #[.int .i64 R.fl.deadline,.slice (some ⟨T,0,none⟩) R.fl.Lw.length O,.int .i64 R.state,v2,aV R.ended]::row 150 3 v2 j (oy (R.Lv.take j))::aG e p (S.rdIn k id R j)::row 58 7 (.slice (some ⟨T,0,none⟩) R.fl.Lw.length O) R.fl.Lw.length (bU R.fl.Lw vs)::ey vs R.fl.Lw::fr) aN ?_;refine sS<|sP (bB Z Z Z)<|sN<|sQ ?_
  refine aA Z (λBT=>?_) λBT=>?_
  ·
   have L8:j<R.Lv.length:=by have:(j:Int)<(R.fl.Lw.length:Int):=BT;omega
   obtain⟨s,hs⟩:∃s,R.Lv[j]?=some s:=⟨R.Lv[j],by simp[L8]⟩;obtain⟨hs1,Ms,Mt,Mu⟩:=hS.ok.sp hR hs;have Mm:=hS.token hR hs;have L9:=FK.As hs (FK.eo S (k+1));refine ah<|sT<|sQ<|aj<|bg Z<|sB Z<|bg Z ?_
   refine sO<|ct Z Z Z Z Y (cZ (b:=I) (m:=s.state.toNat) (r:=FK.cQ [s.Lu.toNat,s.token]++(FK.gF R (j+1)++FK.eo S (k+1))) ai) (by rw[L9];unfold FK.zK;rw[FK.dF];exact aN) ?_
   rintro v m ⟨rfl,rfl⟩;refine az<|sP (bJ (r:=s.state) Z Z Z (unU ai ai))<|sM Z ?_
   refine sO<|ct Z Z Z Z Y (cZ (b:=I) (m:=s.Lu.toNat) (r:=FK.cQ [s.token]++(FK.gF R (j+1)++FK.eo S (k+1))) ai) (by rw[FK.dF];exact aN) ?_
   rintro v m ⟨rfl,rfl⟩;refine az<|sP (bJ (r:=s.Lu) Z Z Z (unU ai ai))<|sM Z ?_
   refine sO<|ct Z Z Z Z Y (cZ (b:=I) (m:=s.token) (r:=FK.gF R (j+1)++FK.eo S (k+1)) ai) (by rw[FK.dF];exact aN) ?_
   rintro v m ⟨rfl,rfl⟩;refine az<|sP (bT (ps:=[(0,.tmp 84),(1,.tmp 87),(2,.tmp 89)]) (vs:=[.int .i64 s.state,.int .i64 s.Lu,aV s.token]) (cs:=(n7 s).toArray) Z Z Z Z Z)<|sO (cX (z:=.agg #[.int .i64 0,.int .i64 0,.int .u64 0]) Z λLD=>?_)
   refine sO<|aZ (vs:=n7 s) Z (m:=3) Z Z Z Z fx (by show 0+3<=3;omega) ?_
   refine al (l':=blk LD 150 (n7 s).toArray::gS I pb (FK.gF R (j+1)++FK.eo S (k+1))::pb::blk K 148 #[.int .i64 R.fl.deadline,.slice (some ⟨T,0,none⟩) R.fl.Lw.length O,.int .i64 R.state,v2,aV R.ended]::row 150 3 v2 j (oy (R.Lv.take j))::aG e p (S.rdIn k id R j)::row 58 7 (.slice (some ⟨T,0,none⟩) R.fl.Lw.length O) R.fl.Lw.length (bU R.fl.Lw vs)::ey vs R.fl.Lw::fr) aN ?_;refine sN<|sQ<|sZ Z<|eI Z Z<|cJ Z Z<|dv 3 Z Z Z<|bZ Z (aF (v:=v2) Z) (ag Z)<|bZ Z (bR (vs:=n7 s) Z) (aR Z) ?_
   refine cK 6 Z (dB (m:=1) (z:=.agg #[.int .i64 0,.int .i64 0,.int .u64 0]) (size:=3) (ps:=[(0,.tmp 96)]) (vs:=[.agg (n7 s).toArray]) (cs:=(n7 s).toArray) Z Z Z Z ai ai Z (JB _ _ Z) λMn=>?_);refine dK [false,true] (aa (ag Z) ab) ?_;refine dR 7 rfl rfl (cU rfl rfl FP rfl ai rfl rfl (HasVal.sel (v:=v2)) (news:=n7 s) rfl (λh=>by cases h) (iu (λj u h=>by simpa using h)) fx (by unfold maxLen;omega) ai λLO Mi=>?_);refine aI (HasVal.sel (v:=LO)) ?_;rintro d6 d7 rfl - - - - -
   refine dK [false] ab<|dr 8 Z (cv Z)<|bF Z (bL 3 Z) ?_
   refine cK 10 Z<|cp Z Z Z Z Z ii ?_
   refine dK [] ab<|dE<|sT<|sQ<|aD K #[.int .i64 R.fl.deadline,.slice (some ⟨T,0,none⟩) R.fl.Lw.length O,.int .i64 R.state,.slice d6 (j+1) d7,aV R.ended] rfl ?_
   rw[Gk hs];refine al (l':=blk LD 150 (n7 s).toArray::gS I pb (FK.gF R (j+1)++FK.eo S (k+1))::pb::blk K 148 #[.int .i64 R.fl.deadline,.slice (some ⟨T,0,none⟩) R.fl.Lw.length O,.int .i64 R.state,.slice d6 (j+1) d7,aV R.ended]::row 150 3 (.slice d6 (j+1) d7) (j+1) (oy (R.Lv.take (j+1)))::aG e p (S.rdIn k id R j)::row 58 7 (.slice (some ⟨T,0,none⟩) R.fl.Lw.length O) R.fl.Lw.length (bU R.fl.Lw vs)::ey vs R.fl.Lw::fr) ap ?_;refine sG<|bX 0 Z<|aE Z Z Z Z<|sP (bC Z Z Z)<|sN ?_
   refine aA Z (λd9=>?_) λd9=>?_
   ·
    refine sZ Z<|eI Z Z<|dv 2 Z Z Z ?_
    refine iJ 3 Z (aF (v:=.map (some p.tm)) Z) (bc λ_ _ _=>rfl) ?_;refine dr 4 Z (bL 2 Z)<|bZ Z (aF (v:=aV s.token) Z) (ag Z)<|cJ Z Z<|cJ Z Z<|bF Z (bT (ps:=[(0,.tmp 110),(1,.tmp 111)]) (vs:=[aV id,.int .i64 (j:Int)]) (cs:=(iq ⟨id,(j:Int),0⟩).toArray) Z Z Z Z Z)<|tV Z<|uX (tok:=s.token) (q:=⟨id,(j:Int),0⟩) Z Z fy Z Z Z (hS.fresh f9 hs d9)<|dK [false,false] ab<|dE<|am<|sT<|sG<|sP (aT (r:=((j+1:Nat):Int)) Z Z eg)<|sM Z<|aq<|aC (j+1,.slice d6 (j+1) d7) (by show j+1<=R.Lv.length;omega) (by show R.Lv.length-(j+1)<R.Lv.length-j;omega) cf ?_
    show Ent _ (gS I pb (FK.gF R (j+1)++FK.eo S (k+1))::pb::blk K 148 #[.int .i64 R.fl.deadline,.slice (some ⟨T,0,none⟩) R.fl.Lw.length O,.int .i64 R.state,.slice d6 (j+1) d7,aV R.ended]::row 150 3 (.slice d6 (j+1) d7) (j+1) (oy (R.Lv.take (j+1)))::aG e p (S.rdIn k id R (j+1))::_);rw[FK.Gz hs d9];exact ap
   ·
    refine ah<|am<|sT<|sG<|sP (aT (r:=((j+1:Nat):Int)) Z Z eg)<|sM Z<|aq<|aC (j+1,.slice d6 (j+1) d7) (by show j+1<=R.Lv.length;omega) (by show R.Lv.length-(j+1)<R.Lv.length-j;omega) cf ?_
    show Ent _ (gS I pb (FK.gF R (j+1)++FK.eo S (k+1))::pb::blk K 148 #[.int .i64 R.fl.deadline,.slice (some ⟨T,0,none⟩) R.fl.Lw.length O,.int .i64 R.state,.slice d6 (j+1) d7,aV R.ended]::row 150 3 (.slice d6 (j+1) d7) (j+1) (oy (R.Lv.take (j+1)))::aG e p (S.rdIn k id R (j+1))::_);rw[FK.IZ hs d9];exact Ent.drop
  ·
   obtain rfl:j=R.Lv.length:=by have:¬(j:Int)<(R.fl.Lw.length:Int):=BT;omega
   refine aK<|av<|au<|ao<|sT<|aI (HasVal.sel (v:=v2)) ?_
   rintro A2 c2 rfl f1 f2 - - -
   obtain⟨gs,rfl⟩:∃g,A2=some ⟨g,0,none⟩:=by
    cases A2 with
    | none=>have:=(f1 rfl).1;omega
    | some ad=>obtain⟨g,rfl⟩:=f2 ad rfl;exact⟨g,rfl⟩
   rw[FK.Dv,List.take_length];refine al (l':=kV K ⟨T,O,gs,c2,vs⟩ R::aG e p (S.rdIn k id R R.Lv.length)::gS I pb (FK.eo S (k+1))::pb::fr) ?_ ?_
   · refine Ent.trans ?_<|Ent.all (m:=oz K ⟨T,O,gs,c2,vs⟩ R)
     refine Ent.trans ?_<|Ent.pure LN
     show Ent _ (blk K 148 #[.int .i64 R.fl.deadline,.slice (some ⟨T,0,none⟩) R.fl.Lw.length O,.int .i64 R.state,.slice (some ⟨gs,0,none⟩) R.Lv.length c2,aV R.ended]::row 58 7 (.slice (some ⟨T,0,none⟩) R.fl.Lw.length O) R.fl.Lw.length (bU R.fl.Lw vs)::ey vs R.fl.Lw::row 150 3 (.slice (some ⟨gs,0,none⟩) R.Lv.length c2) R.Lv.length (oy R.Lv)::aG e p (S.rdIn k id R R.Lv.length)::gS I pb (FK.eo S (k+1))::pb::fr);exact ap
   refine sG<|dS 1 Z Z ?_
   refine cE (aF (v:=.map (some p.rm)) Z) (bc λ_ _ _=>rfl) ?_;refine sM Z<|sM Z<|sO<|xK (id:=id) (b:=K) (a:=⟨T,O,gs,c2,vs⟩) (R:=R) Z Z fy Z Z Z (hS.freshR f9)<|aq<|am<|sT<|sG<|cG Z (cH (r:=((S.runs.length-(k+1):Nat):Int)) Z Z (Kn d8 ai))<|sA Z<|aq<|aC (k+1,p.add id K ⟨T,O,gs,c2,vs⟩) (by show k+1<=S.runs.length;omega) (by show S.runs.length-(k+1)<S.runs.length-k;omega) cf ?_
   show Ent _ (gS I pb (FK.eo S (k+1))::pb::aG e (p.add id K ⟨T,O,gs,c2,vs⟩) (S.rdTo (k+1))::fr);rw[FK.DP f9];exact ap
 ·
  obtain rfl:k=S.runs.length:=by have:¬(0:Int)<((S.runs.length-k:Nat):Int):=t8;omega
  refine aK<|av<|au<|ao<|sT<|sQ<|bg Z ?_
  refine sO<|ct Z Z Z Z Y (cZ (b:=I) (m:=S.Lx.length) (r:=FK.mG S 0) ai) (by rw[FK.Dw,FK.dF];exact aN) ?_
  rintro v m ⟨rfl,rfl⟩;refine az<|sB Z<|aj ?_
  refine aL (X:=Nat) (λk=>[(11,.int .u64 ((S.Lx.length-k:Nat):Int)),(4,B0 I),(3,aX e),(1,aX I)]) (λk=>gS I pb (FK.mG S k)::pb::aG e p (S.rdQ k)::fr) (λk=>k<=S.Lx.length) (λk=>S.Lx.length-k) 0 (Nat.zero_le _) cf aN ?_;intro k hk;replace hk:k<=S.Lx.length:=hk;refine sQ<|bg Z<|sP (eS Z Z Z)<|sN ?_
  refine aA Z (λf7=>?_) λf7=>?_
  ·
   have d8:k<S.Lx.length:=by have:(0:Int)<((S.Lx.length-k:Nat):Int):=f7;omega
   obtain⟨q,hq⟩:∃q,S.Lx[k]?=some q:=⟨S.Lx[k],by simp[d8]⟩;have Ma:(S.rdQ k).Lx.length<=400:=by show(S.Lx.take k).length<=400;rw[List.length_take];omega
   obtain⟨⟨LY,Mw⟩,LZ⟩:=FK.vO hS (du hq);obtain⟨qi,qk,qs,L3,-,-⟩:=(hS.ok.Lx q).1 (du hq);have LL:q.run<18446744073709551616:=LZ _ (by simp[FK.xh]);have Mb:=FK.Av hq;refine ah<|sT<|sQ<|aj<|sZ Z<|eI Z Z<|dv 3 Z Z Z<|cJ Z Z<|dr 5 Z (bn Z) ?_
   refine cK 4 Z<|ct Z Z Z Z Y (cZ (b:=I) (m:=q.run) (r:=FK.cQ [q.node.toNat]++FK.mG S (k+1)) LL) (by rw[Mb];unfold FK.xh;rw[FK.dF];exact aN) ?_
   rintro v m ⟨rfl,rfl⟩;refine az<|dK [] ab ?_
   refine cK 6 Z<|ct Z Z Z Z Y (cZ (b:=I) (m:=q.node.toNat) (r:=FK.mG S (k+1)) ai) (by rw[FK.dF];exact aN) ?_
   rintro v m ⟨rfl,rfl⟩;refine az<|dK [] ab<|dr 7 Z (bJ (r:=q.node) Z Z Z (unU LY ai))<|dP 8 rfl rfl (bT (ps:=[(0,.tmp 130),(1,.tmp 133)]) (vs:=[aV q.run,.int .i64 q.node]) (cs:=(iq q).toArray) rfl rfl rfl rfl (by subst L3;rfl)) ?_
   refine cK 9 Z<|cF Z (uN q Ma) gfE2 ?_
   rintro v m ⟨rfl,rfl⟩;refine ae<|dK [] ab<|dE<|am<|sT<|sG<|cG Z (cH (r:=((S.Lx.length-(k+1):Nat):Int)) Z Z (Kn d8 ai))<|sA Z<|aq<|aC (k+1) (by show k+1<=S.Lx.length;omega) (by show S.Lx.length-(k+1)<S.Lx.length-k;omega) cf ?_
   rw[FK.Gy hq];exact aY bM bM
  ·
   obtain rfl:k=S.Lx.length:=by have:¬(0:Int)<((S.Lx.length-k:Nat):Int):=f7;omega
   refine aK<|av<|au<|ao<|sT<|sQ<|bg Z ?_
   refine sO<|ct Z Z Z Z Y (cZ (b:=I) (m:=S.tms.length) (r:=FK.lA S 0) ai) (by rw[FK.Dx,FK.dF];exact aN) ?_
   rintro v m ⟨rfl,rfl⟩;refine az<|sB Z<|aj ?_
   refine aL (X:=Nat) (λk=>[(12,.int .u64 ((S.tms.length-k:Nat):Int)),(4,B0 I),(3,aX e),(1,aX I)]) (λk=>gS I pb (FK.lA S k)::pb::aG e p (S.rdT k)::fr) (λk=>k<=S.tms.length) (λk=>S.tms.length-k) 0 (Nat.zero_le _) cf (by rw[FK.IY];exact aN) ?_;intro k hk;replace hk:k<=S.tms.length:=hk;refine sQ<|bg Z<|sP (eS Z Z Z)<|sN ?_
   refine aA Z (λf8=>?_) λf8=>?_
   ·
    have d8:k<S.tms.length:=by have:(0:Int)<((S.tms.length-k:Nat):Int):=f8;omega
    obtain⟨x,hx⟩:∃x,S.tms[k]?=some x:=⟨S.tms[k],by simp[d8]⟩;have In:=du hx;obtain⟨⟨Mx,My,L4,Mz⟩,LF⟩:=FK.vU hS In;have Mc:x.1.run<18446744073709551616:=LF _ (by simp[FK.xf]);have Md:x.2<18446744073709551616:=LF _ (by simp[FK.xf]);have Me:=(hS.ok.tms x In).1;have Mf:=LB x In;have Mg:=FK.Ap hx;have Fd:(S.rdT k).tms.length<=99998:=by show(S.tms.take k).length<=99998;rw[List.length_take];omega
    have Mh:(S.rdT k).sets<9223372036854775807:=by show k<9223372036854775807;omega
    refine ah<|sT<|sQ<|aj<|bg Z ?_
    refine sO<|ct Z Z Z Z Y (cZ (b:=I) (m:=x.1.run) (r:=FK.cQ [(x.1.node+1).toNat,x.1.what.toNat,x.2]++FK.lA S (k+1)) Mc) (by rw[Mg];unfold FK.xf;rw[FK.dF];exact aN) ?_
    rintro v m ⟨rfl,rfl⟩;refine az<|sM Z ?_
    refine sO<|ct Z Z Z Z Y (cZ (b:=I) (m:=(x.1.node+1).toNat) (r:=FK.cQ [x.1.what.toNat,x.2]++FK.lA S (k+1)) ai) (by rw[FK.dF];exact aN) ?_
    rintro v m ⟨rfl,rfl⟩;refine az<|sP (bJ (r:=x.1.node+1) Z Z Z (unU ai ai))<|sP (cH (r:=x.1.node) Z Z eg)<|sM Z ?_
    refine sO<|ct Z Z Z Z Y (cZ (b:=I) (m:=x.1.what.toNat) (r:=FK.cQ [x.2]++FK.lA S (k+1)) ai) (by rw[FK.dF];exact aN) ?_
    rintro v m ⟨rfl,rfl⟩;refine az<|sP (bJ (r:=x.1.what) Z Z Z (unU L4 ai))<|sP (bT (ps:=[(0,.tmp 143),(1,.tmp 147),(2,.tmp 150)]) (vs:=[aV x.1.run,.int .i64 x.1.node,.int .i64 x.1.what]) (cs:=(iq x.1).toArray) Z Z Z Z Z)<|sO (cX (z:=.agg #[.int .u64 0,.int .i64 0,.int .i64 0]) Z λLP=>?_)
    refine sO<|aZ (vs:=iq x.1) Z (m:=3) Z Z Z Z fx (by show 0+3<=3;omega) ?_
    refine al (l':=blk LP 157 (iq x.1).toArray::gS I pb (FK.cQ [x.2]++FK.lA S (k+1))::pb::aG e p (S.rdT k)::fr) aN ?_;refine sN<|sZ Z<|eI Z Z<|dv 6 Z Z Z ?_
    refine iJ 3 Z (aF (v:=aX p.w) Z) (bc λ_ _ _=>rfl) ?_;refine iJ 4 Z (bR (vs:=iq x.1) Z) (aR Z)<|cJ Z Z ?_
    refine cK 6 Z<|ct Z Z Z Z Y (cZ (b:=I) (m:=x.2) (r:=FK.lA S (k+1)) Md) (by rw[FK.dF];exact aY bM bM) ?_
    rintro v m ⟨rfl,rfl⟩;refine az ?_;refine dK [true,true] (aa (aR Z) (aa (bc λ_ _ _=>rfl) ab)) ?_;refine cK 7 Z<|cF Z (oH (S:=S.rdT k) x.1 x.2 Mf Me Mh Fd) gfE3 ?_
    rintro v m ⟨rfl,rfl⟩;refine ae<|dK [false,false] ab<|dE<|am<|sT<|sG<|cG Z (cH (r:=((S.tms.length-(k+1):Nat):Int)) Z Z (Kn d8 ai))<|sA Z<|aq<|aC (k+1) (by show k+1<=S.tms.length;omega) (by show S.tms.length-(k+1)<S.tms.length-k;omega) cf ?_
    rw[FK.Gx hS.ok.knd hx];exact ap
   ·
    obtain rfl:k=S.tms.length:=by have:¬(0:Int)<((S.tms.length-k:Nat):Int):=f8;omega
    rw[FK.IX];refine aK<|av<|au<|ao<|sT<|bg Z<|sB Z<|an ?_
    exact aw [aG e p S.rd,pb] rfl Z ⟨e,p,rfl,rfl⟩ (by show Ent _ (aG e p S.rd::pb::fr);exact ap)
end Go.Y

namespace FK
structure Kp (S U:En):Prop where
 keys:U.runs.map (·.1)=S.runs.map (·.1)
 run:∀a A',U.getR a=some A'->∃A,S.getR a=some A/\A'.fl=A.fl/\(A'.state=A.state\/(2<=A'.state/\A'.state<=5))
section
variable {S U:En}
theorem Kp.runs (h:U.runs=S.runs):Kp S U:=⟨by rw[h],λa A' E=>⟨A',by unfold En.getR at E ⊢;rw[<-h];exact E,rfl,.inl rfl⟩⟩
theorem Kp.refl (S:En):Kp S S:=Kp.runs rfl
theorem Kp.trans {S T U:En} (h:Kp S T) (k:Kp T U):Kp S U:=⟨k.keys.trans h.keys,λa A' I=>by
 obtain⟨B,K,O,b2⟩:=k.run a A' I;obtain⟨A,I,Y,E⟩:=h.run a B K;refine⟨A,I,O.trans Y,?_⟩;rcases b2 with b2|b2
 · rcases E with E|E
   · exact .inl (b2.trans E)
   · exact .inr ai
 · exact .inr b2⟩
theorem Kp.setR {S:En} {id:Nat} {R R':Rn} (I:S.getR id=some R) (K:R'.fl=R.fl) (O:R'.state=R.state\/(2<=R'.state/\R'.state<=5)):Kp S (S.setR id R'):=
 ⟨setR_keys,λa A' E=>by
  by_cases e:a=id
  · subst e
    rw[dG I] at E;injection E with E;subst E;exact⟨R,I,K,O⟩
  · rw[fI e] at E
    exact⟨A',E,rfl,.inl rfl⟩⟩
theorem Kp.via {T:En} (h:Kp S T) (e:U.runs=T.runs):Kp S U:=h.trans (Kp.runs e)
theorem zW (S:En) (id k:Nat) (g:Sp->Sp):Kp S (S.onS id k g):=by
 unfold En.onS
 split
 · rename_i R E
   split
   · exact Kp.setR E rfl<|.inl rfl
   · exact Kp.refl S
 · exact Kp.refl S
theorem xS (S:En) (id k:Nat):Kp S (S.ready id k):=(zW S id k _).via rfl
theorem G9 (id:Nat) (S:En) (k:Nat):Kp S (En.wakeK id S k):=by
 unfold En.wakeK
 split
 · split
   · exact xS S id k
   · exact Kp.refl S
 · exact Kp.refl S
theorem wq {f:En->Nat->En} (h:∀S k,Kp S (f S k)):∀(l:List Nat) (S:En),Kp S (l.foldl f S)
 | [],S=>Kp.refl S
 | k::l,S=>(h S k).trans (wq h l (f S k))
theorem Cz (S:En) (id:Nat):Kp S (S.wake id):=by
 unfold En.wake
 split
 · exact wq (λS k=>G9 id S k) _ _
 · exact Kp.refl S
theorem oV (S:En) (id k:Nat):Kp S (S.leave id k):=by
 unfold En.leave
 split
 · rename_i R E
   split
   · rename_i s I
     exact(Kp.setR (R':=R.setS k {s with token:=0}) E rfl (.inl rfl)).via rfl
   · exact Kp.refl S
 · exact Kp.refl S
theorem Jq (id:Nat) (S:En) (k:Nat):Kp S (oK id S k):=(oV S id k).trans (zW _ id k _)
theorem vg (S:En) (id:Nat) {st:Int} (h:2<=st/\st<=5):Kp S (S.finish id st):=by
 unfold En.finish
 split
 · rename_i R E
   exact(((Kp.setR (R':={R with state:=st,ended:=S.ends+1}) E rfl (.inr h)).via (U:=({S with ends:=S.ends+1}.setR id {R with state:=st,ended:=S.ends+1}).unset ⟨id,-1,0⟩) rfl).trans (wq (λS k=>Jq id S k) _ _)).via rfl
 · exact Kp.refl S
theorem vf (S:En) (id:Nat):Kp S (S.settle id):=by
 unfold En.settle
 split
 · split
   · exact vg S id (by split<;>omega)
   · exact Kp.refl S
 · exact Kp.refl S
theorem yY (S:En) (t:Nat):Kp S (S.complete t):=by
 unfold En.complete
 split
 · exact(((oV S _ _).trans (zW _ _ _ _)).trans (Cz _ _)).trans (vf _ _)
 · exact Kp.refl S
theorem CA (S:En) (p:Pl) (a:Nat):Kp S (S.setT p a):=Kp.runs rfl
theorem Eb {id k:Nat} {R:Rn} {s:Sp} (E:S.getR id=some R) (I:R.Lv[k]?=some s):(S.leave id k).getR id=some (R.setS k {s with token:=0}):=je E I
theorem vh (S:En) (id k:Nat):Kp S (S.failed id k):=by
 unfold En.failed
 split
 · rename_i R I
   split
   · rename_i s n K O
     have E:=Eb I K
     split
     · unfold En.rests
       exact((oV S id k).trans (Kp.setR (R':=R.turned k s 4) E rfl (.inl rfl))).trans (CA _ _ _)
     · unfold En.dies
       exact((oV S id k).trans (Kp.setR (R':=(R.turned k s 6).skips (qM R.fl.Lw)) E rfl (.inl rfl))).trans (vf _ _)
   · exact Kp.refl S
 · exact Kp.refl S
theorem Jp (S:En) (t:Nat):Kp S (S.fail t):=by
 unfold En.fail
 split
 · exact vh S _ _
 · exact Kp.refl S
theorem CB (S:En) (p:Pl) (n:Node):Kp S (S.life p n):=by
 unfold En.life
 split
 · exact CA _ _ _
 · exact Kp.refl S
theorem K0 (S:En) (p:Pl):Kp S (S.due p):=by
 unfold En.due
 split
 · exact vg S _ ai
 · split
   · split
     · exact xS S _ _
     · exact vh S _ _
   · exact Kp.refl S
theorem Ticks.kp {up:Nat} (h:Ticks up S U):Kp S U:=by
 induction h with
 | done _=>exact Kp.runs rfl
 | @step S U x tms' _ _ _ E=>exact((Kp.runs (S:=S) (U:={S with now:=x.2,tms:=tms'}) rfl).trans (K0 _ _)).trans E
theorem Jo {id k:Nat} {q:List Pl} {R:Rn} {s:Sp} {n:Node} (E:S.getR id=some R):Kp S (S.hand ⟨id,(k:Int),0⟩ q R s n):=by
 rw[ri];refine Kp.trans ?_<|CB _ _ _
 exact(Kp.setR (R':=R.setS k ⟨3,s.Lu+1,S.Ls+1⟩) E rfl (.inl rfl)).via rfl
theorem kp_rd (S:En):Kp S S.rd:=Kp.runs rfl
def Stt (S:En):Prop:=∀a A,S.getR a=some A->0<=A.state/\A.state<=9
theorem Stt.kp (h:Stt S) (k:Kp S U):Stt U:=λa A' I=>by
 obtain⟨A,K,_,E⟩:=k.run a A' I;have:=h a A K;rcases E with E|E<;>omega
end
end FK

namespace FK
def e0:Dsk:=⟨[],[],[],-1,-1,false⟩
def e1:Dsk:=⟨[],[],[],-2,-2,false⟩
def e2:Dsk:=⟨[],[],[],-3,-3,false⟩
theorem JN:e0.sync=(e1,0):=by
 have E:Go.IntKind.i64.wrap (-2)=-2:=by decide
 simp[e0,e1,Dsk.sync,Dsk.writes,E]
theorem JM:e1.sync=(e2,0):=by
 have E:Go.IntKind.i64.wrap (-3)=-3:=by decide
 simp[e1,e2,Dsk.sync,Dsk.writes,E]
def J0:Jn:=⟨0,false,0⟩
theorem sE:Quiet e0:=⟨rfl,rfl,rfl,rfl⟩
end FK
namespace Go.Y
open Go.Proofs
open Go Go.RowKit Go.SL
variable {G:Env->Prop}
abbrev mK (d:Nat):Value:=.iface 66 (aX d)
theorem Kz {d:Nat}:dZ G 263 [aX d] [ar d FK.e0] λv m=>v=.nilIface/\m=[ar d FK.e1]:=by
 have:=jy (G:=G) (d:=d) (σ:=FK.e0) di di;rw[FK.JN] at this;exact this
theorem Ky {d:Nat}:dZ G 263 [aX d] [ar d FK.e1] λv m=>v=.nilIface/\m=[ar d FK.e2]:=by
 have:=jy (G:=G) (d:=d) (σ:=FK.e1) di di;rw[FK.JM] at this;exact this
theorem tA (K I:Nat):DoesD Tryz.prog G 95 [aX I,aX K].toArray .returning .returning [blk I 71 #[.nilIface]] λm=>m=[blk I 71 #[.nilIface]]:=by
 refine DoesD.plain Tryz.func95 Z Z λE fr O=>?_;exact ae<|sS<|aE Z Z Z Z<|sP (cS Z Z)<|sN<|ak Z<|ah<|bm [_] rfl ⟨rfl,rfl⟩ aN
theorem y4 {d:Nat} (Y v2:Value):eh 54 [mK d,Y,v2] [ar d FK.e0] λv m=>∃j,v=.tuple #[aX j,.nilIface]/\m=[aM j d FK.J0,ar d FK.e2]:=by
 refine ox Tryz.func54 Z Z λE fr T=>?_;refine ae<|sS<|sO (cX (z:=.pointer none) Z λO=>(sO (cX (z:=.nilIface) Z λK=>(sN (sS (sM Z (sP (bT (ps:=[(0,.tmp 25)]) (vs:=[mK d]) (cs:=nY d FK.J0) Z Z Z Z Z) (sO (cL Z Z λI=>(aD I (nY d FK.J0) Z ?_))))))))))
 refine bK Z Z Z Z ii ?_;refine aD O #[aX I] rfl<|sN<|sS ?_
 refine sP (ew Z Z) ?_;refine sO<|wi Z<|sN<|sQ<|bg Z ?_
 refine sO<|fm Z Z Z (rE ⟨d,0,none⟩) Z T Kz gfE3 ?_
 rintro v m ⟨rfl,rfl⟩;refine ae ?_;refine bK Z Z Z Z ii ?_;refine aD K #[.nilIface] rfl ?_;refine al (l':=blk K 71 #[.nilIface]::blk O 102 #[aX I]::aM I d FK.J0::ar d FK.e1::fr) ap ?_;refine sN<|sS<|aE Z Z Z Z<|sP (cS Z Z)<|sN<|ak Z<|ah<|sT<|bg Z ?_
 refine sO<|fm Z Z Z (FJ ⟨d,0,none⟩) Z T (tQ Z Z) gfE3 ?_
 rintro v m ⟨rfl,rfl⟩;refine ae<|sM Z<|bG Z Z<|bG Z Z<|sA Z ?_
 refine bK Z Z Z Z ii ?_;refine aD K #[.nilIface] rfl ?_;refine al (l':=blk K 71 #[.nilIface]::blk O 102 #[aX I]::aM I d FK.J0::ar d FK.e1::fr) ap ?_;refine sN<|sQ<|sS<|aE Z Z Z Z<|sP (cS Z Z)<|sN<|ak Z<|ah<|sT<|sS<|sB Z<|sQ<|sS ?_
 refine cG Z (bh Z Z)<|sM Z<|sN<|aj ?_
 refine aL (X:=Nat) (λ_=>[(42,.int .i64 0),(41,.int .i64 0),(9,.slice none 0 0),(8,.slice none 0 0),(7,aX K),(6,aX O),(2,v2),(1,Y),(0,mK d)]) (λ_=>blk K 71 #[.nilIface]::blk O 102 #[aX I]::aM I d FK.J0::ar d FK.e1::fr) (λ_=>True) (λ_=>0) 0 trivial cf aN ?_;intro k hk;refine sS<|sP (bB Z Z Z)<|sN<|sQ<|ak Z<|aK<|av<|au<|ao<|sT<|sQ<|sZ Z<|eI Z Z<|bZ Z (aF Z) (ag Z)<|dv 1 Z Z Z<|bZ Z (aF Z) (ag Z)<|dr 6 Z (mc Z)<|cJ Z Z ?_
 refine cK 5 Z<|cF Z (gK (kind:=⟨#[108,111,103]⟩) (n:=0) ai di) aN ?_
 rintro v m ⟨rfl,rfl⟩;refine aB<|dK [false,true] (aa (ag Z) ab) ?_
 refine cK 8 Z<|fm Z Z Z (E5 ⟨d,0,none⟩) Z T (n0 (name:=FK.bw 0) Z Z) gfE3 ?_
 rintro v m ⟨rfl,rfl⟩;refine ae<|dK [true] (aa (ag Z) ab)<|dr 9 Z (bn Z)<|bF Z (bA Z Z)<|bF Z (bA Z Z)<|bF Z (aQ Z) ?_
 refine cK 13 Z<|cp Z Z Z Z Z (by show 0<1;omega) ?_
 refine aD K #[.iface 33 (.int .i64 9)] rfl ?_;refine al (l':=blk K 71 #[.iface 33 (.int .i64 9)]::blk O 102 #[aX I]::aM I d FK.J0::ar d FK.e1::fr) ap ?_;refine dK [false] ab<|dE<|sT<|sQ<|sS<|aE Z Z Z Z<|sP (fj Z Z)<|sM Z<|mJ (aF Z) (ag Z)<|eJ (ed Z Z Z) ?_
 refine iK Z Z Z<|cF Z (oW 9) aN ?_
 rintro v m ⟨rfl,rfl⟩;refine aB<|eJ (dp Z Z)<|sP (aS Z Z Z)<|sN<|ak Z<|ah<|sT<|sQ<|bg Z<|sP (oo Z Z Z)<|sN<|ak Z<|ah<|sT<|sQ<|aj ?_
 refine aL (X:=Nat) (λ_=>[(19,.slice none 0 0),(8,.slice none 0 0),(7,aX K),(6,aX O),(0,mK d)]) (λ_=>blk K 71 #[.iface 33 (.int .i64 9)]::blk O 102 #[aX I]::aM I d FK.J0::ar d FK.e1::fr) (λ_=>True) (λ_=>0) 0 trivial cf aN ?_;intro k hk;refine sQ<|bg Z<|sP (bh Z Z)<|sP (eS Z Z Z)<|sM Z<|bQ Z<|bQ Z<|bQ Z<|bQ Z<|bQ Z<|sP (aS Z Z Z)<|sN<|ak Z<|aK<|av<|au<|ao<|sT<|sQ<|sQ ?_
 refine sG<|cG Z (bh Z Z)<|sM Z<|sN<|aj ?_
 refine aL (X:=Nat) (λ_=>[(142,.int .i64 0),(141,.int .i64 0),(7,aX K),(6,aX O),(0,mK d)]) (λ_=>blk K 71 #[.iface 33 (.int .i64 9)]::blk O 102 #[aX I]::aM I d FK.J0::ar d FK.e1::fr) (λ_=>True) (λ_=>0) 0 trivial cf aN ?_;intro k hk;refine sS<|sP (bB Z Z Z)<|sN<|sQ<|ak Z<|aK<|av<|au<|ao<|sT<|bg Z ?_
 refine sO<|fm Z Z Z (rE ⟨d,0,none⟩) Z T Ky gfE3 ?_
 rintro v m ⟨rfl,rfl⟩;refine ae ?_;refine bK Z Z Z Z ii ?_;refine aD K #[.nilIface] rfl<|sN<|an ?_
 refine ic (.inl Z) Z Z T (tA O K) aN ?_;rintro m rfl;refine ae<|eb [aM I d FK.J0,ar d FK.e2] rfl (dy Z Z (ag Z)) (dy Z Z (ag Z)) ⟨I,rfl,rfl⟩ ?_
 show Ent _ (aM I d FK.J0::ar d FK.e2::fr);exact ap
theorem uE {j d:Nat} {J:FK.Jn}:dZ G 58 [aX j] [aM j d J] λv m=>v=.bool J.torn/\m=[aM j d J]:=by
 refine bz Tryz.func58 Z λE fr I=>?_;exact ae<|sS<|sB Z<|sS<|dS 2 Z Z<|aE Z Z Z Z<|sB Z<|an<|aw [_] rfl Z ⟨rfl,rfl⟩ aN
theorem zl {d:Nat}:eh 30 [mK d] [ar d FK.e0] λv m=>∃f e j p,v=.tuple #[aX f,.nilIface]/\m=dg f e j d p FK.En.fresh FK.J0 FK.e2:=by
 refine bz Tryz.func30 Z λE fr O=>ae<|sS<|sA Z<|sB Z<|sS ?_
 refine ch Z wj aN ?_;rintro v m ⟨e,p,rfl,rfl⟩;refine ae<|sP (bT (ps:=[(0,.tmp 8)]) (vs:=[aX e]) (cs:=#[aX e,.pointer none]) Z Z Z Z Z)<|sO (cL Z Z λI=>(sO (cX (z:=.pointer none) Z λK=>?_)))
 refine bK Z Z Z Z ii ?_;refine aD K #[aX I] rfl<|sN<|bg Z ?_
 refine sP (ew Z Z) ?_;refine aE Z Z Z Z ?_;refine sP (ew Z Z) ?_;refine ch Z (y4 _ _) gfE3 ?_;rintro v m ⟨j,rfl,rfl⟩;refine az<|sM Z<|bG Z Z<|bG Z Z<|sA Z<|sB Z<|sQ<|bg Z<|sP (cS Z Z)<|sN<|ak Z<|ah<|sT<|sS ?_
 refine aE Z Z Z Z<|dS 1 Z Z<|bK Z Z Z Z (by show 1<2;decide) ?_
 refine aD I #[aX e,aX j] rfl<|sN<|sQ<|bg Z ?_
 refine bV Z uE gfE1 ?_;refine ae<|sN<|ak Z<|ah<|sT<|sS<|aE Z Z Z Z<|sA Z<|sB Z<|an<|db (dg I e j d p FK.En.fresh FK.J0 FK.e2) Z Z Z ⟨I,e,j,p,rfl,rfl⟩ ?_
 show Ent _ (dT I e j::aG e p FK.En.fresh::aM j d FK.J0::ar d FK.e2::fr);exact ap
theorem y8 {h d:Nat}:eh 14 [aX h,gD] [eN h d none,ar d FK.e0] λv m=>v=.int .i64 0/\∃f e j p,m=cd h f e j d p FK.En.fresh FK.J0 FK.e0:=by
 refine bz Tryz.func14 Z λE fr I=>az<|sS<|sO (cL Z Z λb3=>(sB Z (sS (sM Z (cE (bR (vs:=cg (-1) (-1) 0 0) Z) (aR Z) ?_)))))
 refine bV Z (eO (-1) (-1) 0 0) (aY bM bM) ?_;refine az ?_;rw[quietE FK.sE];refine al (l':=eN h d none::ar d FK.e0::blk b3 49 (cg (-1) (-1) 0 0).toArray::fr) (by show Ent (_::_::blk b3 49 (cg (-1) (-1) 0 0).toArray::_) _;exact ap) ?_;refine sN<|sS<|dS 0 Z Z<|aE Z Z Z Z<|sP (ed Z Z Z) ?_
 refine ch Z zl gfE1 ?_;rintro v m ⟨f,e,j,p,rfl,rfl⟩;refine cc<|sM Z<|bG Z Z<|bG Z Z<|sA Z<|sB Z<|bg Z<|dS 1 Z Z ?_
 refine bK Z Z Z Z ii ?_;refine aD h #[aX d,aX f] rfl<|sN<|sQ<|bg Z<|sP (cS Z Z)<|sN<|ak Z<|ah<|sT<|sQ ?_
 refine al (l':=bN h d f::ar d FK.e2::dT f e j::aG e p FK.En.fresh::aM j d FK.J0::blk b3 49 (cg (-1) (-1) 0 0).toArray::fr) ap ?_;refine sG<|sM Z<|cE (bR (vs:=cg (-1) (-1) 0 0) Z) (aR Z) ?_
 refine bV Z (fh (σ:=FK.e2) (-1) (-1) 0 0 Z) aN ?_;refine az ?_;rw[show FK.e2.rested=FK.e0 from rfl];refine sN<|bg Z ?_
 refine bV Z iU aN ?_;refine aB<|sB Z<|an<|aw (cd h f e j d p FK.En.fresh FK.J0 FK.e0) Z Z ⟨rfl,f,e,j,p,rfl⟩ ?_
 show Ent _ (bN h d f::dT f e j::aG e p FK.En.fresh::aM j d FK.J0::ar d FK.e0::fr);exact ap
end Go.Y

namespace FK
open Go.Y (dN)
def frames (l:List (List UInt8)):List UInt8:=l.flatMap frame
theorem lh (l:List (List UInt8)) (b:List UInt8):frames (l++[b])=frames l++frame b:=by
 unfold frames;rw[List.flatMap_append];simp
theorem zh (l:List (List UInt8)) (b:List UInt8):frames (b::l)=frame b++frames l:=by
 unfold frames;rw[List.flatMap_cons]
theorem Eo (b:List UInt8):4<=(frame b).length:=by
 unfold frame jp;simp only[List.length_append,List.length_cons,List.length_nil];omega
def py (l:List (List UInt8)) (k:Int):Dsk:=⟨[(bw 0,dN (frames l))],[(bw 0,dN (frames l))],[],-k,-k,false⟩
theorem Cf (a b:List UInt8):dN (a++b)=dN a++dN b:=by
 unfold dN;refine ByteArray.ext ?_;simp
theorem xQ (l:List (List UInt8)) (b:List UInt8) (k:Int):(py l k).logs 0 (dN (frame b))=py (l++[b]) k:=by
 have h:ea [(bw 0,dN (frames l))] ⟨2,bw 0,dN (frame b)⟩=[(bw 0,dN (frames (l++[b])))]:=by
  rw[lh,Cf];have e:(bw 0==bw 0)=true:=(Go.MapKept.bytes_beq _ _).2 rfl;simp[ea,fS,dw,List.findIdx?_cons,e]
 unfold Dsk.logs py;simp only[h]
theorem JO (b:List UInt8):e0.logs 0 (dN (frame b))=py [b] 1:=by
 unfold Dsk.logs py e0 frames;simp[ea,fS,dw]
theorem pR (l:List (List UInt8)):Quiet (py l 1):=⟨rfl,rfl,rfl,rfl⟩
theorem Jk (l:List (List UInt8)) (k:Int):vol (py l k).now=(frames l).length/\vol (py l k).dur=(frames l).length:=by
 have e:(dN (frames l)).size=(frames l).length:=by
  show(frames l).toArray.size=_;simp
 simp[py,vol,e]
inductive Reds:En->List (List UInt8)->En->Prop
 | nil {S:En}:Reds S [] S
 | cons {S S' U:En} {b:List UInt8} {l:List (List UInt8)}:Fine S->b.length<=1000000001->Redo S b S'->Reds S' l U->Reds S (b::l) U
theorem Reds.snoc {S U V:En} {b:List UInt8} {l:List (List UInt8)} (h:Reds S l U) (E:Fine U) (K:b.length<=1000000001) (I:Redo U b V):Reds S (l++[b]) V:=by
 induction h with
 | nil=>exact .cons E K I .nil
 | cons O T Y _ ih=>exact .cons O T Y (ih E I)
end FK
namespace Go.Y
open Go.Proofs
open Go Go.RowKit Go.SL
theorem DO {f e:Nat} {jv:Value} {p:EA} {S S':FK.En} {b:List UInt8} {pb:HP} {A:Option Addr} {c:Nat} (T:FK.Fine S) (h:FK.Redo S b S') (Y:Reads pb A b) (hc:b.length<=c) :
 eh 57 [aX f,.slice A b.length c] [i7 f e jv,aG e p S,pb] λv m=>v=.tuple #[]/\∃p',m=[i7 f e jv,aG e p' S',pb]:=by
 have a1:=T.sets;have a2:=T.ends;have a3:=T.tok;cases h with
 | submit hd hf hl d6 hu=>
  exact(AK T Y hc hl hd hf).mono λv m ⟨E,S0,p',h0,K⟩=>⟨m,⟨E,p',by rw[K,hu _ h0]⟩,aN⟩
 | poll hq hR hs hn=>
  exact(iT (op:=2) (Q:=λU=>U=_) ai ai ai Y hc (H4 ((Co T.ok hq hR hs hn ai ai).mono λv m E=>⟨m,⟨⟨v,rfl⟩,_,rfl,E.2⟩,aN⟩))).mono λv m ⟨E,U,O,K⟩=>⟨m,⟨E,p,by rw[K,O]⟩,aN⟩
 | beat I ht hR hn=>
  exact(iT (op:=3) (Q:=λU=>U=_) ai ai I Y hc (yf ((C4 T.ok ht hR hn ai).mono λv m E=>⟨m,⟨E.1,_,rfl,E.2⟩,aN⟩))).mono λv m ⟨E,U,O,K⟩=>⟨m,⟨E,p,by rw[K,O]⟩,aN⟩
 | complete I ht=>
  exact(iT (op:=4) (Q:=λU=>U=_) ai ai I Y hc (ye ((qI T.ok ht ai).mono λv m E=>⟨m,⟨E.1,_,rfl,E.2⟩,aN⟩))).mono λv m ⟨E,U,O,K⟩=>⟨m,⟨E,p,by rw[K,O]⟩,aN⟩
 | fail I ht=>
  exact(iT (op:=5) (Q:=λU=>U=_) ai ai I Y hc (yd ((CP T.ok ht ai ai).mono λv m E=>⟨m,⟨E.1,_,rfl,E.2⟩,aN⟩))).mono λv m ⟨E,U,O,K⟩=>⟨m,⟨E,p,by rw[K,O]⟩,aN⟩
 | cancel I hR=>
  exact(iT (op:=6) (Q:=λU=>U=_) ai ai I Y hc (HU ((EK T.ok hR ai).mono λv m E=>⟨m,⟨E.1,_,rfl,E.2⟩,aN⟩))).mono λv m ⟨E,U,O,K⟩=>⟨m,⟨E,p,by rw[K,O]⟩,aN⟩
 | tick I ht=>
  exact(iT (op:=7) (Q:=λU=>U=_) ai ai I Y hc (yc ((Cg T.ok I a1 a2).mono λv m ⟨h1,U,h2,h3⟩=>⟨m,⟨h1,U,h2.unique ht,h3⟩,aN⟩))).mono λv m ⟨E,U,O,K⟩=>⟨m,⟨E,p,by rw[K,O]⟩,aN⟩
 | seed I=>
  exact(iT (op:=8) (Q:=λU=>U=_) ai ai I Y hc (HJ ((DG _).mono λv m E=>⟨m,⟨E.1,_,rfl,E.2⟩,aN⟩))).mono λv m ⟨E,U,O,K⟩=>⟨m,⟨E,p,by rw[K,O]⟩,aN⟩
open Go.Proofs Go.RowKit Go.SL
variable {G:Env->Prop}
theorem xb {s:ByteArray} (I:s.size<=18) (h:Lib.atoi s.data.toList=none):eh 96 [bY s] [] λv m=>(∃t x,v=.tuple #[.int .i64 0,.iface t x])/\m=[]:=λE w fr K hw=>by
 obtain⟨t,p,Y⟩:=K.syn w hw.is;exact(mL s I h _ w Y (.inr ⟨_,_,rfl⟩)).mono λe w' ⟨N,O,_,_,T⟩=>⟨_,[],O,⟨⟨_,_,rfl⟩,rfl⟩,hw.below T⟩
theorem uD (s p:ByteArray):dZ G 97 [bY s,bY p] [] λv m=>v=bY ⟨(Lib.trimPrefix s.data.toList p.data.toList).toArray⟩/\m=[]:=
 (ge (φ:=λ_=>True) λ_ w _ _ _=>(lW s p w).mono λ_ _ ⟨E,I⟩=>⟨E,by rw[I];exact Below.refl _ _⟩).does
theorem _root_.FK.Reds.nil_eq {S U:FK.En} (h:FK.Reds S [] U):U=S:=by
 cases h
 rfl
theorem _root_.FK.Reds.cons_eq {S U:FK.En} {b:List UInt8} {l:List (List UInt8)} (h:FK.Reds S (b::l) U):∃S',FK.Fine S/\b.length<=1000000001/\FK.Redo S b S'/\FK.Reds S' l U:=by
 cases h with
 | cons E I K O=>exact⟨_,E,I,K,O⟩
abbrev rB (f:Nat):Value:=.func (.func 57) #[aX f] #[]
end Go.Y

namespace Go.Y
open Go.Proofs Go.RowKit Go.SL
variable {G:Env->Prop}
theorem EQ {vs:List Value} {ns:List FK.Node} {i:Nat} {u:Value} {nd:FK.Node} (E:vs[i]?=some u) (I:ns[i]?=some nd):ck (vs.drop i) (ns.drop i)=aU u nd.after::ck (vs.drop (i+1)) (ns.drop (i+1)):=by
 obtain⟨K,O⟩:=gfGet.1 E;obtain⟨h3,T⟩:=gfGet.1 I;rw[List.drop_eq_getElem_cons K,List.drop_eq_getElem_cons h3,O,T]
 rfl
theorem uC (dl:Int) (A:Option Addr) (c:Nat) (ns:List FK.Node):Does Tryz.prog G 34 [.agg #[.int .i64 dl,.slice A ns.length c]].toArray [nodesOwn (.slice A ns.length c) ns] λv m=>v=.tuple #[]/\m=[]:=by
 refine bz Tryz.func34 Z λE fr hE=>ae<|iL .head ?_
 intro vs f9;refine aI .head ?_;intro A' c' hA d7 Y t8 mt d8;injection hA with hA _ t7;subst hA;subst t7;have Fd:c<=9223372036854775807:=by unfold maxLen at mt;omega
 refine sS<|sO (cL Z Z λb1=>(sN (sS (bX 1 Z (aE Z Z Z Z (sP (bh Z Z) (sM Z (sN (aj ?_)))))))))
 refine aL (X:=Nat×List Value) (λx=>[(7,.int .i64 x.1),(6,.int .i64 ns.length),(1,.pointer (some ⟨b1,0,none⟩))]) (λx=>blk b1 25 #[.int .i64 dl,.slice A ns.length c]::row 58 7 (.slice A ns.length c) ns.length x.2::(ck (vs.drop x.1) (ns.drop x.1)++fr)) (λx=>x.1<=ns.length/\x.2.length=ns.length*7/\∀j u,x.1<=j->vs[j]?=some u->x.2[j*7+6]?=some u) (λx=>ns.length-x.1) (0,bU ns vs) ⟨ai,d8,λj u _ T=>(by obtain⟨h1,_⟩:=gfGet.1 T;rw[jD ns vs j 6 ns[j] u f9 cP T ai];rfl)⟩ cf aN ?_;rintro⟨i,xs⟩ ⟨hi,d9,I⟩;simp only at hi d9 I ⊢;refine sS<|sP (bB Z Z Z)<|sN<|sQ ?_
 refine aA Z (λc8=>?_) λc8=>?_
 ·
  have O:i<ns.length:=ai;obtain⟨g,rfl⟩:∃g,A=some ⟨g,0,none⟩:=by
   cases A with
   | none=>have:=(d7 rfl).1;omega
   | some ad=>obtain⟨g,rfl⟩:=Y ad rfl;exact⟨g,rfl⟩
  obtain⟨nd,hnd⟩:∃nd,ns[i]?=some nd:=⟨ns[i],by simp[O]⟩;obtain⟨u,T⟩:∃u,vs[i]?=some u:=⟨vs[i]'ai,by simp⟩;rw[EQ T hnd];refine aI dj ?_;rintro A6 c6 rfl d6 K wf t6 BT;have In:c6<=9223372036854775807:=by unfold maxLen at t6;omega
  refine ah<|sT<|sQ<|aj<|bg Z<|sB Z<|sQ<|sS<|bX 1 Z<|aE Z Z Z Z<|cG Z (bp (z:=7) Z Z Z Z O)<|bX 6 Z<|cE (aF Z) (fg bM (by simpa using I i _ (cm _) T))<|sP (bh Z Z) ?_
  refine sM Z<|sN<|aj ?_
  refine aL (X:=Nat×List Value) (λx=>[(17,.int .i64 x.1),(16,.int .i64 nd.after.length),(2,.int .i64 i),(7,.int .i64 i),(6,.int .i64 ns.length),(1,.pointer (some ⟨b1,0,none⟩))]) (λx=>row 3 1 (.slice A6 nd.after.length c6) nd.after.length x.2::blk b1 25 #[.int .i64 dl,.slice (some ⟨g,0,none⟩) ns.length c]::row 58 7 (.slice (some ⟨g,0,none⟩) ns.length c) ns.length xs::(ck (vs.drop (i+1)) (ns.drop (i+1))++fr)) (λx=>x.1<=nd.after.length) (λx=>nd.after.length-x.1) (0,bx nd.after) ai cf gfE2 ?_;rintro⟨k,ys⟩ hk;simp only at hk ⊢;refine sS<|sP (bB Z Z Z)<|sN<|sQ ?_
  refine aA Z (λf8=>?_) λf8=>?_
  ·
   have f7:k<nd.after.length:=ai;obtain⟨g6,rfl⟩:∃g,A6=some ⟨g,0,none⟩:=by
    cases A6 with
    | none=>have:=(d6 rfl).1;omega
    | some ad=>obtain⟨g,rfl⟩:=K ad rfl;exact⟨g,rfl⟩
   refine ah<|sT<|sQ<|aj<|bg Z<|sB Z<|sG<|bX 1 Z<|aE Z Z Z Z<|cG Z (bp (z:=7) Z Z Z Z O)<|bX 6 Z<|cE (aF Z) (fg dj (by simpa using I i _ (cm _) T))<|cG Z (bp (z:=1) Z Z Z Z f7) ?_
   refine sO<|fL .head Z Z Z Z ai ?_
   refine aq<|am<|sT<|sG<|sP (aT Z Z (iI ai))<|sM Z<|aq ?_
   exact aC (k+1,_) (by simp only;omega) (by simp only;omega) cf aN
  ·
   refine aK<|av<|au<|ao<|sT<|sG<|bX 1 Z<|aE Z Z Z Z<|cG Z (bT (ps:=[]) (vs:=[]) (cs:=#[.int .i64 0,.int .i64 0,.int .i64 0,.int .i64 0,.int .i64 0,.int .i64 0,.slice none 0 0]) Z Z Z Z Z)<|sP (bp (z:=7) Z Z Z Z O) ?_
   refine sO<|eU (k:=7) (vs:=[.int .i64 0,.int .i64 0,.int .i64 0,.int .i64 0,.int .i64 0,.int .i64 0,.slice none 0 0]) dj Z Z Z Z fx ai ?_
   refine aq<|am<|sT<|sG<|sP (aT Z Z (iI ai))<|sM Z<|aq ?_
   exact aC (i+1,ky xs (0+i*7) [.int .i64 0,.int .i64 0,.int .i64 0,.int .i64 0,.int .i64 0,.int .i64 0,.slice none 0 0]) ⟨by simp only;omega,by simp only[gp];exact d9,λj u hj T=>(by simp only at hj ⊢;rw[jg _ _ _ _ (by simp;omega)];exact I j u ai T)⟩ (by simp only;omega) cf ((Ent.cons Ent.drop).trans (Ent.perm (List.Perm.swap _ _ _)))
 ·
  exact aK<|av<|au<|ao<|bm [] rfl ⟨rfl,rfl⟩<|Ent.drop.trans<|Ent.drop.trans<|wy _
end Go.Y

namespace Go.Y
open Go.Proofs Go.RowKit Go.SL
variable {G:Env->Prop}
open Go.Proofs Go.RowKit Go.Deep
def ChkPost (w:World) (p:Int×Int) (e:Ending) (w':World):Prop:=e=.returned (.tuple #[.int .i64 p.1,.int .i64 p.2])/\Below w.heap.size w w'
def FreeTo (l:List FK.Node) (g:List Bool) (i m:Nat) (b:Bool):Prop:=b=true<->∀k∈(FK.fP l i).take m,g[k]?=some true
theorem FreeTo.start (l:List FK.Node) (g:List Bool) (i:Nat):FreeTo l g i 0 true:=by simp[FreeTo]
theorem FreeTo.next {l:List FK.Node} {g:List Bool} {i m x:Nat} {b c:Bool} (h:FreeTo l g i m b) (I:(FK.fP l i)[m]?=some x) (O:g[x]?=some c):FreeTo l g i (m+1) (b&&c):=by
 obtain⟨T,I⟩:=gfGet.1 I;unfold FreeTo at *
 rw[List.take_succ_eq_append_getElem T,I];rw[Bool.and_eq_true,h];constructor
 · rintro⟨Y,h2⟩ k E
   simp at E;rcases E with E|rfl
   · exact Y k E
   · rw[O,h2]
 · intro E
   refine⟨λk K=>E k (by simp[K]),?_⟩;have:=E x cP;rw[O] at this;exact Option.some.inj this
theorem ChkPost.mk {w w':World} {p:Int×Int} (E:Below w.heap.size w w'):ChkPost w p (.returned (.tuple #[.int .i64 p.1,.int .i64 p.2])) w':=⟨rfl,E⟩
def LastRel (len:Nat) (l:List Int) (m:Nat):Prop:=FK.EdgesOk len (-1) l<->FK.EdgesOk len (if m=0 then -1 else l.getD (m-1) 0) (l.drop m)
open Go.Proofs Go.RowKit Go.Deep
section
variable {l:List Int} {m:Nat} {prev:Int}
theorem LastRel.start (len:Nat) (l:List Int):LastRel len l 0:=by simp[LastRel]
theorem LastRel.at_ {len:Nat} {x:Int} (h:LastRel len l m) (E:l[m]?=some x) (K:0<m->l[m-1]?=some prev) :
 FK.EdgesOk len (-1) l<->((if m=0 then -1 else prev)<x/\x<len/\FK.EdgesOk len x (l.drop (m+1))):=by
 obtain⟨O,E⟩:=gfGet.1 E;unfold LastRel at h;rw[h,tL O,E]
 by_cases I:m=0
 · simp[I]
 · have:=K ai
   simp[I,this]
theorem LastRel.next {len:Nat} {x:Int} (h:LastRel len l m) (E:l[m]?=some x) (I:0<m->l[m-1]?=some prev) (K:(if m=0 then -1 else prev)<x) (O:x<len):LastRel len l (m+1):=by
 have:=h.at_ E I;unfold LastRel;rw[this];simp[K,O,E]
theorem LastRel.ended {len:Nat} (h:LastRel len l m) (E:l.length<=m):FK.EdgesOk len (-1) l:=by
 unfold LastRel at h;rw[h,List.drop_of_length_le E];trivial
end
end Go.Y

namespace Go.Y
open Go.Proofs Go.RowKit Go.SL
theorem Fit.enc {f:FK.Flow} (h:FK.Fit f):∃d:Nat,f.deadline=d/\d<=1048576/\f.Lw.length<=12/\∀n∈f.Lw,FK.ef n/\FK.EdgesOk f.Lw.length (-1) n.after:=by
 obtain⟨⟨K,O⟩,h3,I⟩:=h.head;refine⟨f.deadline.toNat,ai,ai,I,λn E=>?_⟩;obtain⟨i,hi⟩:=List.getElem?_of_mem E;exact h.Lw i n (gfGet.1 hi).1 hi
theorem vn (I:Int) (ns:List FK.Node) (A:Option Addr) (c:Nat):Gives Tryz.prog Good 33 [.agg #[.int .i64 I,.slice A ns.length c]].toArray (λw=>NodesAt w w.heap.size A c ns)
 λv m=>((FK.chk ⟨I,ns⟩).1=0/\∃bv,v=.tuple #[bv,.nilIface]/\m=[bP bv (FK.bo ⟨I,ns⟩)])\/((FK.chk ⟨I,ns⟩).1≠0/\∃b,v=.tuple #[.slice none 0 0,.iface 125 (.pointer (some ⟨b,0,none⟩))]/\m=[blk b 130 #[.int .i64 (FK.chk ⟨I,ns⟩).1,.int .i64 (FK.chk ⟨I,ns⟩).2]]):=by
 refine Gives.body Tryz.func33 Z Z λE w0 O T Y=>?_;refine sS<|sO (cL Z Z λb1=>(sA Z (sB Z (sQ (sQ ?_)))))
 by_cases K:(FK.chk ⟨I,ns⟩).1=0
 ·
  refine sG<|cE (bR (vs:=[.int .i64 I,.slice A ns.length c]) Z) (aR Z)<|sO<|iP Z Z Z O (lj ⟨I,ns⟩ A c) (mi bM T Y (cm _)) ?_
  rintro v m hv;obtain⟨rfl,rfl⟩:=hv.ok K;refine aB ?_;obtain⟨d,hd,d6,hl,ho⟩:=Fit.enc (FK.Ia K);simp only at hd hl ho;subst hd;refine sB Z<|bg Z<|sP (cS Z Z)<|sN<|ak Z<|ah<|sT<|sS<|cE (bR (vs:=[.int .i64 d,.slice A ns.length c]) Z) (aR Z)<|sO<|iP Z Z Z O (qL d A c ns d6 hl ho) (mi bM T Y (cm _)) ?_
  rintro v m rfl;exact ae<|sA Z<|sB Z<|an<|db [_] rfl Z Z (.inl ⟨K,_,rfl,rfl⟩)<|Ent.cons Ent.drop
 ·
  refine sG<|cE (bR (vs:=[.int .i64 I,.slice A ns.length c]) Z) (aR Z)<|sO<|iP Z Z Z O (lj ⟨I,ns⟩ A c) (mi bM T Y (cm _)) ?_
  rintro v m hv;obtain⟨b,rfl,rfl⟩:=hv.bad K;exact ae<|sB Z<|bg Z<|sP (fj Z Z)<|sN<|aO Z<|bg Z<|sA Z<|sB Z<|an<|aH<|db [_] rfl Z Z (.inr ⟨K,b,rfl,rfl⟩)<|Ent.cons Ent.drop
def J3 (f:FK.Flow) (v:Value) (m:List HP):Prop:=
 ((FK.chk f).1=0/\∃E,v=.tuple #[E,.int .i64 0,.int .i64 (-1)]/\m=[bP E (FK.bo f)])\/((FK.chk f).1≠0/\v=.tuple #[.slice none 0 0,.int .i64 (FK.chk f).1,.int .i64 (FK.chk f).2]/\m=[])
theorem pg (I:Int) (ns:List FK.Node) (A:Option Addr) (c:Nat) (T:pf ns):Gives Tryz.prog Good 17 [.agg #[.int .i64 I,.slice A ns.length c]].toArray (λw=>NodesAt w w.heap.size A c ns) (J3 ⟨I,ns⟩):=by
 refine Gives.body Tryz.func17 Z Z λE w0 hE h0 hN=>?_;refine sS<|sO (cL Z Z λb1=>(sA Z (sA Z (sB Z (sS (cE (bR (vs:=[.int .i64 I,.slice A ns.length c]) Z) (aR Z) (sO (iP Z Z Z hE (w6 I A c ns T) (mi bM h0 hN (cm _)) ?_))))))))
 rintro v m ⟨A',K,rfl,rfl⟩;refine ae<|sO (cX (z:=.agg #[.int .i64 0,.slice none 0 0]) Z λb5=>?_)
 refine sO<|aZ Z (m:=2) (vs:=[.int .i64 I,.slice A' ns.length K]) Z Z Z Z fx (by simp[Value.cells]) ?_
 refine sN<|sQ ?_
 by_cases O:(FK.chk ⟨I,ns⟩).1=0
 ·
  refine sG<|cE (bR (vs:=[.int .i64 I,.slice A' ns.length K]) Z) (aR Z)<|sO<|iP Z Z Z hE (vn I ns A' K) (nodesOwn.at bM hN.i64s) ?_
  rintro v m hv;obtain⟨Y,rfl,rfl⟩:∃Y,v=.tuple #[Y,.nilIface]/\m=[bP Y (FK.bo ⟨I,ns⟩)]:=hv.elim (λh=>h.2) λh=>absurd O h.1;refine ae<|sM Z<|bG Z Z<|bG Z Z<|sA Z<|sB Z<|sS<|cE (bR (vs:=[.int .i64 I,.slice A' ns.length K]) Z) (aR Z) ?_
  refine bV Z (uC I A' K ns) gfE2 ?_;refine aB<|sN<|bg Z ?_
  refine bV Z rU aN ?_;exact aB<|sM Z<|bG Z Z<|bG Z Z<|sA Z<|sB Z<|bg Z<|sM Z<|sM Z<|sA Z<|sA Z<|sB Z<|an<|fM [_] rfl Z Z Z (.inl ⟨O,Y,rfl,rfl⟩)<|Ent.cons<|Ent.drop.trans Ent.drop
 ·
  refine sG<|cE (bR (vs:=[.int .i64 I,.slice A' ns.length K]) Z) (aR Z)<|sO<|iP Z Z Z hE (vn I ns A' K) (nodesOwn.at bM hN.i64s) ?_
  rintro v m hv;obtain⟨b,rfl,rfl⟩:∃b,v=.tuple #[.slice none 0 0,.iface 125 (.pointer (some ⟨b,0,none⟩))]/\m=[blk b 130 #[.int .i64 (FK.chk ⟨I,ns⟩).1,.int .i64 (FK.chk ⟨I,ns⟩).2]]:=hv.elim (λh=>absurd h.1 O) λh=>h.2;refine ae<|sM Z<|bG Z Z<|bG Z Z<|sA Z<|sB Z<|sS<|cE (bR (vs:=[.int .i64 I,.slice A' ns.length K]) Z) (aR Z) ?_
  refine bV Z (uC I A' K ns) gfE2 ?_;refine aB<|sN<|bg Z ?_
  refine bV Z (Ah b _ _) (Ent.sel .head) ?_;exact ae<|sM Z<|bG Z Z<|bG Z Z<|sA Z<|sB Z<|bg Z<|sM Z<|sM Z<|sA Z<|sA Z<|sB Z<|an<|fM [] rfl Z Z Z (.inr ⟨O,rfl,rfl⟩)<|Ent.drop.trans<|Ent.drop.trans Ent.drop
end Go.Y

namespace Go.Y
open Go.Proofs Go.RowKit Go.SL
variable {G:Env->Prop}
section
variable {ns:List FK.Node} {vs:List Value} {nd:FK.Node}
theorem lB {x:Int} (h:i64 x) (d:Nat) (hd:0<d):IntKind.i64.wrap (x.tdiv d)=x.tdiv d:=by
 have E:(x.tdiv d).natAbs<=x.natAbs:=by rw[Int.natAbs_tdiv];exact Nat.div_le_self _ _
 unfold i64 at h;refine iI ?_;have I:0<=x->0<=x.tdiv d:=λh=>Int.tdiv_nonneg h ai;have h3:x<=0->x.tdiv d<=0:=λh=>by
  have:=Int.tdiv_nonneg (a:=-x) (b:=d) ai ai;rw[Int.neg_tdiv] at this;omega
 constructor<;>omega
theorem jI {x:Int} (h:i64 x) (d:Nat) (hd:0<d):i64 (x.tdiv d):=by
 have E:(x.tdiv d).natAbs<=x.natAbs:=by rw[Int.natAbs_tdiv];exact Nat.div_le_self _ _
 have I:0<=x->0<=x.tdiv d:=λh=>Int.tdiv_nonneg h ai;have h3:x<=0->x.tdiv d<=0:=λh=>by
  have:=Int.tdiv_nonneg (a:=-x) (b:=d) ai ai;rw[Int.neg_tdiv] at this;omega
 unfold i64 at h ⊢;constructor<;>omega
theorem eW (c:Int) (n:Nat) (hc:i64 c) (Y:0<n) (K:n<9223372036854775808):dZ G 8 [.int .i64 c,.int .i64 n] [] λv m=>∃k:Int,v=.int .i64 k/\(0<=k/\k<n)/\m=[]:=by
 have I:=hc;unfold i64 at I;refine bz Tryz.func8 Z λE fr hE=>aB<|sS<|sB Z ?_
 refine sQ<|cT (X:=Int) (λx=>[(0,.int .i64 x),(1,.int .i64 n)]) (λ_=>fr) (λx=>0<=x) ?_ ?_
 ·
  refine bg Z<|sP (bB Z Z Z)<|sN ?_
  refine aA Z (λO=>?_) λO=>?_
  ·
   refine sG<|cG Z (aT Z Z (iI ai))<|sP (FU Z (iI ai))<|sA Z<|aq ?_
   exact bd _ ai ⟨rfl,rfl,trivial⟩ aN
  ·
   refine ah ?_;exact bd c ai cf aN
 intro x T;refine bg Z<|cG Z (lZ Z Z ai Z)<|sB Z<|an ?_
 exact aw [] rfl Z ⟨_,rfl,⟨Int.tmod_nonneg _ T,Int.tmod_lt_of_pos _ ai⟩,rfl⟩ aN
theorem xT (A:Option Addr) (c:Nat) (xs:List Int) (i:Nat) (hi:i<9223372036854775808):Gives Tryz.prog G 15 [.slice A xs.length c,.int .i64 i].toArray (λw=>IntsAt w w.heap.size A c xs) λv m=>∃x:Int,v=.int .i64 x/\i64 x/\m=[]:=by
 refine Gives.body Tryz.func15 Z Z λE w0 hE Y O=>?_;refine sS<|sB Z<|sQ<|bg Z<|cG Z (bh Z Z)<|sP (bB Z Z Z)<|sN ?_
 refine aA Z (λc8=>?_) λc8=>?_
 ·
  have K:i<xs.length:=ai;obtain⟨b,o,rfl,hb,I⟩:=O.cells ai;obtain⟨x,T⟩:∃x,xs[i]?=some x:=⟨xs[i],by simp[K]⟩;exact bg Z<|cG Z (bp (z:=1) Z Z Z Z K)<|cE (aF Z) (C0 .head Y (by simpa using I i x T))<|sB Z<|an<|aH<|aw [] rfl Z ⟨x,rfl,O.rng x (du T),rfl⟩ aN
 ·
  refine ah<|sT<|sS<|sB Z<|an ?_
  exact aw [] rfl Z ⟨0,rfl,by unfold i64;omega,rfl⟩ aN
theorem GW (h:FK.Low ns) (I:FK.ef nd) (K:FK.EdgesOk ns.length (-1) nd.after):FK.Low (ns++[nd]):=λi n hi=>by
 rcases Nat.lt_or_ge i ns.length with E|E
 · rw[List.getElem?_append_left E] at hi
   exact h i n hi
 · have:i=ns.length:=by
    have:=(gfGet.1 hi).1;simp at this;omega
   subst this;simp at hi;subst hi;exact⟨I,K⟩
theorem vj {E:Env} {l r:List HP} {I:World} {B:Nat} {A:Option Addr} {c:Nat} {xs:List Int} (s:Sel (old E I) l r) (T:E.is I) (h:IntsAt I B A c xs) (K:B<=I.heap.size):∀w,Holds E w l->IntsAt w w.heap.size A c xs:=
 xm s T λ_ O=>(h.keep (O.to_same.mono K)).more (Nat.le_trans K O.size)
theorem Ef {v':Value} {u:Value} {O I K E o:HP} (h:vs.length=ns.length) :
 Ent (O::row 58 7 v' (ns.length+1) (bU ns vs++aP nd u)::I::K::aU u nd.after::E::o::ck vs ns) (O::row 58 7 v' (ns++[nd]).length (bU (ns++[nd]) (vs++[u]))::E::o::ck (vs++[u]) (ns++[nd])):=by
 rw[nj h,lc ns vs nd u h,show(ns++[nd]).length=ns.length+1 by simp];refine Ent.cons<|Ent.cons<|Ent.drop.trans<|Ent.drop.trans<|Ent.perm ?_
 have T:([aU u nd.after]++(E::o::ck vs ns)).Perm ((E::o::ck vs ns)++[aU u nd.after]):=List.perm_append_comm;simpa using T
theorem Bi {v:Value} {o:HP} (h:vs.length=ns.length):Ent (row 58 7 v ns.length (bU ns vs)::o::ck vs ns) ([nodesOwn v ns]++[o]):=by
 refine(Ent.perm ?_).trans (nodesOwn.ent (r:=[o]) h);exact List.Perm.cons _<|List.perm_append_comm (l₁:=[o]) (l₂:=ck vs ns)
theorem Eg (Lw K:Int) (d7:i64 Lw) (t6:i64 K) (A1 A2:Option Addr) (c1 c2:Nat) (O I:List Int) :
 Gives Tryz.prog G 4 [.int .i64 Lw,.slice A1 O.length c1,.slice A2 I.length c2,.int .i64 K].toArray (λw=>IntsAt w w.heap.size A1 c1 O/\IntsAt w w.heap.size A2 c2 I)
  λv m=>∃(dl:Int) (ns:List FK.Node) (A':Option Addr) (c':Nat),FK.span dl 1/\1<=ns.length/\ns.length<=12/\FK.Low ns/\v=.agg #[.int .i64 dl,.slice A' ns.length c']/\m=[nodesOwn (.slice A' ns.length c') ns]:=by
 refine Gives.body Tryz.func4 Z Z λE w0 hE h0 hN=>?_;obtain⟨hB,hM⟩:=hN;refine sS<|sO (cX (z:=.agg #[.int .i64 0,.slice none 0 0]) Z λb8=>(sN (sS (sM Z ?_))))
 refine ch Z (eW K 2000 t6 ai ai) aN ?_;rintro v m ⟨k,rfl,⟨LG,LH⟩,rfl⟩;refine aB<|sP (aT Z Z (iI ai))<|sP (bT (ps:=[(0,.tmp 18)]) (vs:=[.int .i64 (1+k)]) (cs:=#[.int .i64 (1+k),.slice none 0 0]) Z Z Z Z Z)<|sO (cX (z:=.agg #[.int .i64 0,.slice none 0 0]) Z λb9=>?_)
 refine sO<|aZ Z (m:=2) (vs:=[.int .i64 (1+k),.slice none 0 0]) Z Z Z Z fx (by simp[Value.cells]) ?_
 refine sN<|bg Z ?_
 refine ch Z (eW Lw 12 d7 ai ai) aN ?_;rintro v m ⟨n,rfl,⟨LJ,LK⟩,rfl⟩;refine aB<|sP (aT Z Z (iI ai))<|sB Z<|sQ<|sS<|sB Z<|aj ?_
 refine aL (X:=Nat×List FK.Node×List Value×Value) (λx=>[(11,.int .i64 x.1),(10,.int .i64 (1+n)),(9,.pointer (some ⟨b9,0,none⟩)),(8,.pointer (some ⟨b8,0,none⟩)),(1,.slice A1 O.length c1),(2,.slice A2 I.length c2)]) (λx=>blk b9 25 #[.int .i64 (1+k),x.2.2.2]::row 58 7 x.2.2.2 x.2.1.length (bU x.2.1 x.2.2.1)::blk b8 25 #[.int .i64 0,.slice none 0 0]::old E w0::ck x.2.2.1 x.2.1) (λx=>(x.1:Int)<=1+n/\x.2.1.length=x.1/\x.2.2.1.length=x.2.1.length/\FK.Low x.2.1) (λx=>13-x.1) (0,[],[],.slice none 0 0) ⟨by simp;omega,rfl,rfl,λi nd h=>by simp at h⟩ cf (Ent.cons Ent.row0) ?_;rintro⟨i,ns,vs,v9⟩ ⟨hi,f7,d8,d6⟩;simp only at hi f7 d8 d6 ⊢;refine sQ<|bg Z<|cG Z (bB Z Z Z)<|sN ?_
 refine aA Z (λt7=>?_) λt7=>?_
 ·
  refine ah<|sT<|sQ<|aj<|bg Z<|sM Z ?_
  refine sO<|iP Z Z Z hE (xT A2 c2 I i ai) (vj gC h0 hM (cm _)) ?_
  rintro v m ⟨x,rfl,hx,rfl⟩;refine aB<|sB Z<|bg Z ?_
  refine ch Z (eW x 5 hx ai ai) aN ?_;rintro v m ⟨k1,rfl,⟨LL,LM⟩,rfl⟩;refine aB<|sP (aT Z Z (iI ai))<|cG Z (n8 (r:=x.tdiv 5) Z Z ai (lB hx 5 ai)) ?_
  refine ch Z (eW _ 30 (jI hx 5 ai) ai ai) aN ?_;rintro v m ⟨k2,rfl,⟨LN,LO⟩,rfl⟩;refine aB<|sP (aT Z Z (iI ai))<|cG Z (n8 (r:=x.tdiv 150) Z Z ai (lB hx 150 ai)) ?_
  refine ch Z (eW _ 6 (jI hx 150 ai) ai ai) aN ?_;rintro v m ⟨T,rfl,⟨LP,LQ⟩,rfl⟩;refine aB<|sP (aT Z Z (iI ai))<|cG Z (n8 (r:=x.tdiv 7) Z Z ai (lB hx 7 ai)) ?_
  refine ch Z (eW _ 4 (jI hx 7 ai) ai ai) aN ?_;rintro v m ⟨k4,rfl,⟨LR,LS⟩,rfl⟩;refine aB<|sP (bT (ps:=[(0,.tmp 33),(1,.tmp 37),(3,.tmp 41),(5,.tmp 44)]) (vs:=[.int .i64 (1+k1),.int .i64 (1+k2),.int .i64 (1+T),.int .i64 k4]) (cs:=#[.int .i64 (1+k1),.int .i64 (1+k2),.int .i64 0,.int .i64 (1+T),.int .i64 0,.int .i64 k4,.slice none 0 0]) Z Z Z Z Z)<|sO (cX (z:=.agg #[.int .i64 0,.int .i64 0,.int .i64 0,.int .i64 0,.int .i64 0,.int .i64 0,.slice none 0 0]) Z λY=>?_)
  refine sO<|aZ Z (m:=7) (vs:=[.int .i64 (1+k1),.int .i64 (1+k2),.int .i64 0,.int .i64 (1+T),.int .i64 0,.int .i64 k4,.slice none 0 0]) Z Z Z Z fx (by simp[Value.cells]) ?_
  rw[show iO (Value.agg #[.int .i64 0,.int .i64 0,.int .i64 0,.int .i64 0,.int .i64 0,.int .i64 0,.slice none 0 0]).cells 0 [.int .i64 (1+k1),.int .i64 (1+k2),.int .i64 0,.int .i64 (1+T),.int .i64 0,.int .i64 k4,.slice none 0 0]=#[.int .i64 (1+k1),.int .i64 (1+k2),.int .i64 0,.int .i64 (1+T),.int .i64 0,.int .i64 k4,.slice none 0 0] from rfl];refine sN<|sQ<|sZ Z<|dr 0 Z (bL 3 Z)<|bZ Z (aF Z) (ag Z)<|cJ Z Z<|bF Z (n8 (r:=x.tdiv 11) Z Z ai (lB hx 11 ai)) ?_
  refine cK 4 Z<|cF Z (eW _ 20 (jI hx 11 ai) ai ai) aN ?_
  rintro v m ⟨k5,rfl,⟨LT,LU⟩,rfl⟩;refine aB<|dK [true] (aa (ag Z) ab)<|dr 5 Z (aT Z Z (iI ai))<|bF Z (bL 4 Z) ?_
  refine cK 7 Z<|cp Z Z Z Z Z ii ?_
  refine dK [false] ab<|dE<|sT ?_
  refine sQ<|cT (X:=Int) (λ_=>[(13,.pointer (some ⟨Y,0,none⟩)),(11,.int .i64 i),(10,.int .i64 (1+n)),(9,.pointer (some ⟨b9,0,none⟩)),(8,.pointer (some ⟨b8,0,none⟩)),(1,.slice A1 O.length c1),(2,.slice A2 I.length c2)]) (λbe=>blk Y 58 #[.int .i64 (1+k1),.int .i64 (1+k2),.int .i64 be,.int .i64 (1+T),.int .i64 (1+T+k5),.int .i64 k4,.slice none 0 0]::blk b9 25 #[.int .i64 (1+k),v9]::row 58 7 v9 ns.length (bU ns vs)::blk b8 25 #[.int .i64 0,.slice none 0 0]::old E w0::ck vs ns) (λbe=>0<=be/\be<=20) ?_ ?_
  ·
   refine bg Z<|sP (n8 (r:=x.tdiv 3) Z Z ai (lB hx 3 ai)) ?_
   refine ch Z (eW _ 2 (jI hx 3 ai) ai ai) aN ?_;rintro v m ⟨k6,rfl,_,rfl⟩;refine aB<|sP (bC Z Z Z)<|sN ?_
   refine aA Z (λt8=>?_) λt8=>?_
   ·
    refine sG<|cG Z (n8 (r:=x.tdiv 13) Z Z ai (lB hx 13 ai)) ?_
    refine ch Z (eW _ 20 (jI hx 13 ai) ai ai) aN ?_;rintro v m ⟨k7,rfl,⟨LV,LW⟩,rfl⟩;refine aB<|sP (aT Z Z (iI ai))<|bX 2 Z ?_
    refine bK Z Z Z Z ii ?_;refine aq ?_;exact bd (1+k7) ai cf aN
   ·
    refine ah ?_;exact bd 0 ai cf aN
  rintro be ⟨LC,LD⟩;refine bg Z<|sM Z ?_
  refine sO<|iP Z Z Z hE (xT A1 c1 O i ai) (vj lp h0 hB (cm _)) ?_
  rintro v m ⟨bt,rfl,In,rfl⟩;refine aB<|sB Z<|sQ<|sS<|sB Z<|aj ?_
  refine aL (X:=Nat×List Int×Value) (λx=>[(15,.int .i64 x.1),(14,.int .i64 bt),(13,.pointer (some ⟨Y,0,none⟩)),(11,.int .i64 i),(10,.int .i64 (1+n)),(9,.pointer (some ⟨b9,0,none⟩)),(8,.pointer (some ⟨b8,0,none⟩)),(1,.slice A1 O.length c1),(2,.slice A2 I.length c2)]) (λx=>blk Y 58 #[.int .i64 (1+k1),.int .i64 (1+k2),.int .i64 be,.int .i64 (1+T),.int .i64 (1+T+k5),.int .i64 k4,x.2.2]::aU x.2.2 x.2.1::blk b9 25 #[.int .i64 (1+k),v9]::row 58 7 v9 ns.length (bU ns vs)::blk b8 25 #[.int .i64 0,.slice none 0 0]::old E w0::ck vs ns) (λx=>x.1<=i/\FK.EdgesOk i (-1) x.2.1/\(∀y∈x.2.1,y<x.1)/\x.2.1.length<=x.1) (λx=>i-x.1) (0,[],.slice none 0 0) ⟨by simp,trivial,by simp,by simp⟩ cf (Ent.cons Ent.row0) ?_;rintro⟨j,xs,v⟩ ⟨hj,he,d9,LB⟩;simp only at hj he d9 LB ⊢;refine sQ<|bg Z<|cG Z (bB Z Z Z)<|sN ?_
  refine aA Z (λwf=>?_) λwf=>?_
  ·
   have LX:j<i:=ai;refine ah<|sT ?_
   refine sQ<|cT (X:=List Int×Value) (λ_=>[(15,.int .i64 j),(14,.int .i64 bt),(13,.pointer (some ⟨Y,0,none⟩)),(11,.int .i64 i),(10,.int .i64 (1+n)),(9,.pointer (some ⟨b9,0,none⟩)),(8,.pointer (some ⟨b8,0,none⟩)),(1,.slice A1 O.length c1),(2,.slice A2 I.length c2)]) (λx=>blk Y 58 #[.int .i64 (1+k1),.int .i64 (1+k2),.int .i64 be,.int .i64 (1+T),.int .i64 (1+T+k5),.int .i64 k4,x.2]::aU x.2 x.1::blk b9 25 #[.int .i64 (1+k),v9]::row 58 7 v9 ns.length (bU ns vs)::blk b8 25 #[.int .i64 0,.slice none 0 0]::old E w0::ck vs ns) (λx=>FK.EdgesOk i (-1) x.1/\(∀y∈x.1,y<j+1)/\x.1.length<=j+1) ?_ ?_
   ·
    refine aj<|bg Z ?_
    refine ch Z (eW bt 1048576 In ai ai) aN ?_;rintro v m ⟨q,rfl,_,rfl⟩;refine aB<|cG Z (bJ Z Z Z (wu64 ai))<|sP (fU Z Z ai Z)<|sP (zY Z Z Z)<|sP (bC Z Z Z)<|sN ?_
    refine aA Z (λBT=>?_) λBT=>?_
    ·
     refine sG<|bX 6 Z<|aE Z Z Z Z<|sM Z<|sO (eE (z:=.int .i64 0) Z Z Z Z Z Z λLE=>?_)
     refine eu rfl (cU rfl rfl jf rfl ai rfl rfl dj (news:=[.int .i64 j]) rfl (λh=>by cases h) (iu (λj u h=>by simpa using h)) fx (by unfold maxLen;omega) ai λv' Fd=>?_);refine aI .head ?_;rintro A7 c7 rfl _ _ _ _ _;refine bX 6 Z ?_;refine bK Z Z Z Z ii ?_;refine aq<|am ?_
     exact bd (xs++[(j:Int)],.slice A7 (xs.length+1) c7) ⟨he.snoc d9 ai ai,λy hy=>(by rcases List.mem_append.1 hy with h|h;have:=d9 y h;omega;simp at h;omega),by simp;omega⟩ cf (by rw[qw];exact Ent.cons (Ent.cons Ent.drop))
    ·
     refine ah<|am ?_
     exact bd (xs,v) ⟨he,λy hy=>(by have:=d9 y hy;omega),by simp only;omega⟩ cf aN
   rintro⟨ys,u⟩ ⟨f8,f9,mt⟩;simp only at f8 f9 mt ⊢;refine sG<|cG Z (aT Z Z (iI ai))<|sA Z<|aq ?_
   exact aC (j+1,ys,u) ⟨by simp only;omega,f8,by simpa using f9,mt⟩ (by simp only;omega) cf aN
  ·
   refine aI bM ?_;rintro A8 c8 rfl _ _ _ _ _;refine aK<|av<|au<|ao<|sT<|sG<|bX 1 Z<|aE Z Z Z Z<|cE (bR (vs:=aP ⟨1+k1,1+k2,be,1+T,1+T+k5,k4,xs⟩ (.slice A8 xs.length c8)) Z) (aR Z) ?_
   refine sO (dB (m:=1) (z:=.agg #[.int .i64 0,.int .i64 0,.int .i64 0,.int .i64 0,.int .i64 0,.int .i64 0,.slice none 0 0]) (size:=7) (ps:=[(0,.tmp 85)]) (vs:=[.agg (aP ⟨1+k1,1+k2,be,1+T,1+T+k5,k4,xs⟩ (.slice A8 xs.length c8)).toArray]) (cs:=(aP ⟨1+k1,1+k2,be,1+T,1+T+k5,k4,xs⟩ (.slice A8 xs.length c8)).toArray) Z Z Z Z ai ai Z (pY _ _) λLF=>?_);refine eu rfl (cU rfl rfl sr rfl ai rfl rfl lp (news:=aP ⟨1+k1,1+k2,be,1+T,1+T+k5,k4,xs⟩ (.slice A8 xs.length c8)) rfl (λh=>by cases h) (iu (λj u h=>by simpa using h)) (by simp[aP,Value.oneCell']) (by unfold maxLen;omega) ai λv' Fd=>?_);refine aI .head ?_;rintro A9 c9 rfl _ _ _ _ _;refine bX 1 Z ?_;refine bK Z Z Z Z ii ?_;refine aq<|am<|sT<|sG<|cG Z (aT Z Z (iI ai))<|sA Z<|aq ?_
   exact aC (i+1,ns++[⟨1+k1,1+k2,be,1+T,1+T+k5,k4,xs⟩],vs++[.slice A8 xs.length c8],.slice A9 (ns.length+1) c9) ⟨by simp only;omega,by simp[f7],by simp[d8],GW d6 (by unfold FK.ef FK.span;simp only;omega) (by rw[f7];exact he)⟩ (by simp only;omega) cf<|Ef d8
 ·
  refine aI bM ?_;rintro A9 c9 rfl _ _ _ _ _;refine aK<|av<|au<|ao<|sT<|sS<|cE (bR (vs:=[.int .i64 (1+k),.slice A9 ns.length c9]) Z) (aR Z) ?_
  refine sO<|aZ Z (m:=2) (vs:=[.int .i64 (1+k),.slice A9 ns.length c9]) Z Z Z Z fx cP ?_
  refine sN<|an ?_
  exact kO [_] rfl (ce (vs:=[.int .i64 (1+k),.slice A9 ns.length c9]) Z Z Z Z (aR Z)) ⟨1+k,ns,A9,c9,by unfold FK.span;omega,ai,ai,d6,rfl,rfl⟩<|Ent.drop.trans<|Ent.drop.trans<|Bi d8
end
end Go.Y

namespace Go.Y
open Go.Proofs Go.RowKit Go.SL
variable {G:Env->Prop}
theorem AP (c:Int) (n:Nat) (hc:i64 c) (Y:0<n) (K:n<9223372036854775808):dZ G 50 [.int .i64 c,.int .i64 n] [] λv m=>∃k:Int,v=.int .i64 k/\(0<=k/\k<n)/\m=[]:=by
 have I:=hc;unfold i64 at I;refine bz Tryz.func50 Z λE fr hE=>aB<|sS<|sB Z ?_
 refine sQ<|cT (X:=Int) (λx=>[(0,.int .i64 x),(1,.int .i64 n)]) (λ_=>fr) (λx=>0<=x) ?_ ?_
 ·
  refine bg Z<|sP (bB Z Z Z)<|sN ?_
  refine aA Z (λO=>?_) λO=>?_
  ·
   refine sG<|cG Z (aT Z Z (iI ai))<|sP (FU Z (iI ai))<|sA Z<|aq ?_
   exact bd _ ai ⟨rfl,rfl,trivial⟩ aN
  ·
   refine ah ?_;exact bd c ai cf aN
 intro x T;refine bg Z<|cG Z (lZ Z Z ai Z)<|sB Z<|an ?_
 exact aw [] rfl Z ⟨_,rfl,⟨Int.tmod_nonneg _ T,Int.tmod_lt_of_pos _ ai⟩,rfl⟩ aN
theorem BL {d:Nat} {σ:FK.Dsk} {kept part:Int} (Y:σ.pend=[]) (hn:(σ.dur.map (·.1)).Nodup) (h2:i64 part):dZ G 29 [aX d,.int .i64 kept,.int .i64 part] [ar d σ] λv m=>v=.tuple #[]/\∃I,I.Perm σ.dur/\m=[ar d ⟨σ.dur,I,[],-1,-1,false⟩]:=by
 obtain⟨dur,now,pend,left,full,down⟩:=σ;simp only at Y hn;subst Y;refine bz Tryz.func29 Z λE fr hE=>ae ?_;refine cN .head λq=>bl ?_;obtain⟨md,K,pv,P⟩:=q;refine al (l':=blk d 88 #[.map (some md),.map (some K),pv,.int .i64 left,.int .i64 full,.bool down]::bI md P dur::bI K P now::fd P::row 113 3 pv 0 []::fr) aN ?_;refine aI lp ?_;rintro A c rfl - - - - -
 refine bg Z<|dS 2 Z Z<|aE Z Z Z Z<|sP (bh Z Z)<|sP (aT (r:=1) Z Z Z) ?_
 refine ch Z (AP part 1 h2 ai ai) aN ?_;rintro v m ⟨k,rfl,-,rfl⟩;refine aB<|sB Z<|sS<|sO (jJ bY Z λO=>(sB Z (sQ (sS (sM Z (dA Z (bX 2 Z (aE Z Z Z Z (sP (bh Z Z) (sM Z (aq ?_)))))))))))
 refine sT<|aj ?_
 refine aL (X:=Nat) (λ_=>[(24,.int .i64 0),(23,.int .i64 0),(0,aX d)]) (λ_=>cA bY O []::blk d 88 #[.map (some md),.map (some K),.slice A 0 c,.int .i64 left,.int .i64 full,.bool down]::bI md P dur::bI K P now::fd P::row 113 3 (.slice A 0 c) 0 []::fr) (λ_=>True) (λ_=>0) 0 trivial cf aN ?_;intro k hk;refine sS<|sP (bB Z Z Z)<|sN<|sQ<|ak Z<|aK<|av<|au<|ao<|sT<|bg Z<|dS 3 Z Z ?_
 refine bK Z Z Z Z ii ?_;refine dA Z<|bX 4 Z ?_
 refine bK Z Z Z Z ii ?_;refine aD d #[.map (some md),.map (some K),.slice A 0 c,.int .i64 (-1),.int .i64 (-1),.bool down] rfl<|sN<|sG<|sM Z ?_
 refine ch Z (Ce hn) (Ent.cons (aY bM dj)) ?_;rintro v m ⟨rfl,I,T,rfl⟩;refine ae<|aq<|bm [ar d ⟨dur,I,[],-1,-1,false⟩] rfl ⟨rfl,I,T,rfl⟩ ?_
 show Ent _ (ar d ⟨dur,I,[],-1,-1,false⟩::fr);exact ap
end Go.Y

namespace Go.Y
open Go.Proofs Go.RowKit Go.SL
theorem pj {h f e j d:Nat} {p:EA} {S:FK.En} {J:FK.Jn} {σ:FK.Dsk} {pb:HP} {A:Option Addr} {c:Nat} {bs:List UInt8} {fl:FK.Flow} (hS:FK.Ok S) (hJ:J.n<1000000) (hb:J.broken=0) (hr:Roomy σ) (hQ:FK.Quiet σ) (hp:Reads pb A bs) (hA:A=none->bs=[]) (hl:bs.length<=1000000000) (hd:FK.uq bs=.ok fl) (d6:FK.Fit fl) (O:S.roomy=true) (T:S.sets<9223372036854775807) (f7:S.Lt<9223372036854775807) :
 eh 18 [aX h,.slice A bs.length c,gD] (cd h f e j d p S J σ++[pb]) λv m=>v=.tuple #[aV (S.Lt+1),.int .i64 0,.int .i64 (-1)]/\∃S0 I,FK.Cut S S0/\m=cd h f e j d I (S0.submit fl) J (σ.logs J.n (dN (FK.frame (1::bs))))++[pb]:=by
 have d9:=hQ.add hb (dN (FK.frame (1::bs)));refine bz Tryz.func18 Z λE fr hE=>jK<|sS<|sO (cL Z Z λb5=>(sA Z (sA Z (sB Z (sQ (sS (sM Z (dA Z (bX 1 Z (aE Z Z Z Z (sP (ez Z Z Z) (sN (ak Z ?_)))))))))))))
 refine ah<|sT<|bg Z<|cE (bR (vs:=cg (-1) (-1) 0 0) Z) (aR Z) ?_
 refine bV Z (eO (-1) (-1) 0 0) (aY bM lp) ?_;refine az ?_;rw[quietE hQ];refine al (l':=pb::dT f e j::aG e p S::aM j d J::ar d σ::bN h d f::blk b5 49 (cg (-1) (-1) 0 0).toArray::fr) (by show Ent (_::_::blk b5 49 (cg (-1) (-1) 0 0).toArray::_) _;exact ap) ?_;refine sN<|bg Z ?_
 refine al (Ent.row0 (e:=5) (size:=1)) ?_;refine sO (cU (k:=0) (xs:=[]) Z Z jh Z ai Z Z .head (news:=cw bs) (by simp[cw]) (λh=>by rw[hA h];rfl) (Reads.src hp bM) (by simp[cw,Value.oneCell']) (by unfold maxLen;omega) ai λt6 mt=>?_);simp only[Nat.zero_add,List.nil_append];refine aI .head ?_;rintro Y c9 rfl f1 f2 - - -
 obtain⟨K,d7⟩:=jL f1 f2;refine sB Z<|sQ ?_
 refine al (l':=dT f e j::aG e p S::aM j d J::ar d σ::bP (.slice Y bs.length c9) bs::pb::bN h d f::blk b5 49 (cg (-1) (-1) 0 0).toArray::fr) ap ?_;refine sG<|dS 1 Z Z<|aE Z Z Z Z<|sM Z ?_
 refine ch Z (wU (pb:=bP (.slice Y bs.length c9) bs) hS hJ hr K d7 hl hd d6 O T f7) aN ?_;rintro v m hv;obtain⟨S0,I,d8,rfl,rfl⟩:∃S0 I,FK.Cut S S0/\v=.tuple #[aV (S.Lt+1),.nilIface]/\m=dg f e j d I (S0.submit fl) J (σ.logs J.n (dN (FK.frame (1::bs)))).spent++[bP (.slice Y bs.length c9) bs]:=by
  unfold mw at hv;rw[d9] at hv;rcases hv with⟨_,S0,I,h1,h2,h3⟩|⟨h1,_⟩
  · exact⟨S0,I,h1,h2,h3⟩
  · exact absurd Z h1
 refine bH<|sM Z<|bG Z Z<|bG Z Z<|sA Z<|sB Z<|sQ<|bg Z<|sP (bh Z Z)<|sM Z<|sN<|aj ?_
 refine aL (X:=Nat×List Value) (λx=>[(36,.int .i64 x.1),(35,.int .i64 bs.length),(9,.slice Y bs.length c9),(10,aV (S.Lt+1)),(11,.nilIface),(5,aX b5),(0,aX h)]) (λx=>row 5 1 (.slice Y bs.length c9) bs.length x.2::dT f e j::aG e I (S0.submit fl)::aM j d J::ar d (σ.logs J.n (dN (FK.frame (1::bs)))).spent::pb::bN h d f::blk b5 49 (cg (-1) (-1) 0 0).toArray::fr) (λx=>x.1<=bs.length) (λx=>bs.length-x.1) (0,cw bs) (Nat.zero_le _) cf gfE4 ?_;rintro⟨k,ys⟩ hk;simp only at hk ⊢;refine sS<|sP (bB Z Z Z)<|sN<|sQ ?_
 refine aA Z (λf8=>?_) λf8=>?_
 ·
  have f9:k<bs.length:=ai;obtain⟨g,rfl⟩:∃g,Y=some ⟨g,0,none⟩:=by
   cases Y with
   | none=>have:=(f1 rfl).1;omega
   | some ad=>obtain⟨g,rfl⟩:=f2 ad rfl;exact⟨g,rfl⟩
  refine ah<|sT<|sQ<|aj<|bg Z<|sB Z<|sG<|sM Z<|cG Z (bp (z:=1) Z Z Z Z f9) ?_
  refine sO<|fL .head Z Z Z Z ai ?_
  refine aq<|am<|sT<|sG<|sP (aT (r:=((k+1:Nat):Int)) Z Z eg)<|sM Z<|aq ?_
  exact aC (k+1,_) (by simp only;omega) (by simp only;omega) cf aN
 ·
  refine aK<|av<|au<|ao<|sT<|sQ ?_
  refine al (l':=bN h d f::ar d (σ.logs J.n (dN (FK.frame (1::bs)))).spent::dT f e j::aG e I (S0.submit fl)::aM j d J::pb::blk b5 49 (cg (-1) (-1) 0 0).toArray::fr) ap ?_;refine sG<|sM Z<|cE (bR (vs:=cg (-1) (-1) 0 0) Z) (aR Z) ?_
  refine bV Z (fh (σ:=(σ.logs J.n (dN (FK.frame (1::bs)))).spent) (-1) (-1) 0 0 hQ.down) aN ?_;refine az ?_;rw[we (hQ.logs _ _)];refine sN<|bg Z ?_
  refine bV Z rU aN ?_;refine aB<|sM Z<|bG Z Z<|bG Z Z<|sA Z<|sB Z<|bg Z<|sM Z<|sM Z<|sA Z<|sA Z<|sB Z<|an<|fM (cd h f e j d I (S0.submit fl) J (σ.logs J.n (dN (FK.frame (1::bs))))++[pb]) Z Z Z Z ⟨rfl,S0,I,d8,rfl⟩ ?_
  show Ent _ (bN h d f::dT f e j::aG e I (S0.submit fl)::aM j d J::ar d (σ.logs J.n (dN (FK.frame (1::bs))))::pb::fr);exact ap
end Go.Y

namespace FK
structure Dk (N:Nat) (σ:Dsk):Prop where
 quiet:Quiet σ
 now:vol σ.now<=N
 dur:vol σ.dur<=N
theorem Dk.e0:Dk 0 FK.e0:=⟨sE,cm _,cm _⟩
theorem Dk.logs {N:Nat} {σ:Dsk} (h:Dk N σ) (n:Nat) {s:ByteArray} (K:s.size<=100000):Dk (N+100000) (σ.logs n s):=by
 have E:=rG σ.now ⟨2,bw n,s⟩;have I:=rG σ.dur ⟨2,bw n,s⟩;have h3:=h.now;have O:=h.dur;refine⟨h.quiet.logs n s,?_,?_⟩
 · show vol (ea σ.now ⟨2,bw n,s⟩)<=_
   simp only at E;omega
 · show vol (ea σ.dur ⟨2,bw n,s⟩)<=_
   simp only at I;omega
end FK
namespace Go.Y
open Go.Proofs
open Go Go.RowKit Go.SL
theorem jk {N:Nat} {σ:FK.Dsk} (h:FK.Dk N σ) (E:N<=1000000000000000):Roomy σ:=by
 have I:=h.now;have K:=h.dur;refine⟨ai,?_,by rw[h.quiet.pend];simp⟩;rw[h.quiet.pend];simp[FK.fR];omega
theorem kJ {N:Nat} {σ:FK.Dsk} (h:FK.Dk N σ) (J:FK.Jn) (op:Nat) {n:Nat} (E:n<18446744073709551616):FK.Dk (N+100000) (cC σ J op n):=by
 refine h.logs J.n ?_;have I:=gq E;have K:(FK.bW op n).length<=11:=by unfold FK.bW;simp;omega
 have h3:=il (FK.bW op n) ai;rw[kF];omega
theorem EF {N:Nat} {σ:FK.Dsk} (h:FK.Dk N σ) (n:Nat) {fl:FK.Flow} (E:FK.Fit fl):FK.Dk (N+100000) (σ.logs n (dN (FK.frame (1::FK.bo fl)))):=by
 refine h.logs n ?_;have I:=E.encLen;have h3:=il (1::FK.bo fl) (by simp;omega);rw[kF];simp only[List.length_cons] at h3;omega
theorem BA (K O:FK.Node) (E I:Value) (_h1:E.oneCell'=true) (_h2:I.oneCell'=true):Instr.fill (λi=>some (i*7,7)) (Array.map (λx=>(Value.agg #[.int .i64 0,.int .i64 0,.int .i64 0,.int .i64 0,.int .i64 0,.int .i64 0,.slice none 0 0]).cells[x%(Value.agg #[.int .i64 0,.int .i64 0,.int .i64 0,.int .i64 0,.int .i64 0,.int .i64 0,.slice none 0 0]).cells.size]!) (Array.range (2*7)))
 ((List.map (λx=>x.1) [((0:Nat),Operand.tmp 34),(1,.tmp 36)]).zip [Value.agg (aP K E).toArray,Value.agg (aP O I).toArray])=some (bU [K,O] [E,I]).toArray:=by
 have e1:Array.range (2*7)=#[0,1,2,3,4,5,6,7,8,9,10,11,12,13]:=rfl;rw[e1];simp[Instr.fill,aP,Value.cells,bU]
theorem Ho {f:FK.Flow} (h:FK.Fit f):pf f.Lw:=⟨by have:=h.head.2.2;omega,λnd hnd=>by
 obtain⟨i,hi⟩:=List.getElem?_of_mem hnd;have:=FK.mq _ _ (h.Lw i nd (FK.cB hi) hi).2;have:=h.head.2.2;omega⟩
theorem BG {b37 b35:Nat} {r:List HP}:Ent (blk b37 58 (bU FK.flow2.Lw [.slice none 0 0,.slice (some ⟨b35,0,none⟩) 1 1]).toArray::blk b35 3 #[.int .i64 0]::r) (nodesOwn (.slice (some ⟨b37,0,none⟩) 2 2) FK.flow2.Lw::r):=by
 refine Ent.trans ?_<|nodesOwn.ent (ns:=FK.flow2.Lw) (vs:=[.slice none 0 0,.slice (some ⟨b35,0,none⟩) 1 1]) Z
 refine(Ent.cons ((hZ (b:=b35) (xs:=[0]) (by simp[maxLen])).trans (Ent.row0 (e:=3) (size:=1)))).trans ?_;exact dI (cm _) (by simp[maxLen]) Z Z
section
variable {h f e j d:Nat} {p:EA} {σ:FK.Dsk} {N:Nat}
theorem Jc (E:FK.Dk N σ) (I:N<=1000000000):eh 22 [aX h,gD] (cd h f e j d p FK.o1 FK.J0 σ) λv m=>v=.tuple #[jR 1 0 1 1,.bool true,.int .i64 0]/\m=cd h f e j d p FK.o2 FK.J0 (cC σ FK.J0 2 0):=by
 have:=i6 (h:=h) (f:=f) (e:=e) (j:=j) (d:=d) (p:=p) (J:=FK.J0) (id:=1) (k:=0) (q:=[]) (R:=(FK.vE 1 ⟨2,0,0⟩ ⟨1,0,0⟩ 0)) (s:=⟨2,0,0⟩) (nd:=⟨2,9,0,3,9,0,[]⟩) FK.o1_ok di rfl (jk E ai) E.quiet rfl rfl rfl rfl di di;rw[FK.E3] at this;exact this
theorem Ja (E:FK.Dk N σ) (I:N<=1000000000):eh 22 [aX h,gD] (cd h f e j d p FK.o4 FK.J0 σ) λv m=>v=.tuple #[jR 1 0 2 2,.bool true,.int .i64 0]/\m=cd h f e j d p FK.o5 FK.J0 (cC σ FK.J0 2 0):=by
 have:=i6 (h:=h) (f:=f) (e:=e) (j:=j) (d:=d) (p:=p) (J:=FK.J0) (id:=1) (k:=0) (q:=[]) (R:=(FK.vE 1 ⟨2,1,0⟩ ⟨1,0,0⟩ 0)) (s:=⟨2,1,0⟩) (nd:=⟨2,9,0,3,9,0,[]⟩) FK.o4_ok di rfl (jk E ai) E.quiet rfl rfl rfl rfl di di;rw[FK.E0] at this;exact this
theorem I9 (E:FK.Dk N σ) (I:N<=1000000000):eh 22 [aX h,gD] (cd h f e j d p FK.o6 FK.J0 σ) λv m=>v=.tuple #[jR 1 1 1 3,.bool true,.int .i64 0]/\m=cd h f e j d p FK.o7 FK.J0 (cC σ FK.J0 2 0):=by
 have:=i6 (h:=h) (f:=f) (e:=e) (j:=j) (d:=d) (p:=p) (J:=FK.J0) (id:=1) (k:=1) (q:=[]) (R:=(FK.vE 1 ⟨5,2,0⟩ ⟨2,0,0⟩ 0)) (s:=⟨2,0,0⟩) (nd:=⟨1,9,0,1,1,0,[0]⟩) FK.o6_ok di rfl (jk E ai) E.quiet rfl rfl rfl rfl di di;rw[FK.EY] at this;exact this
theorem o2_do (E:FK.Dk N σ) (I:N<=1000000000):eh 23 [aX h,.int .i64 5,.int .u64 1,gD] (cd h f e j d p FK.o2 FK.J0 σ) λv m=>v=.int .i64 0/\m=cd h f e j d p FK.o3 FK.J0 (cC σ FK.J0 5 1):=by
 have:=tF (h:=h) (f:=f) (e:=e) (j:=j) (d:=d) (p:=p) (J:=FK.J0) (t:=1) (P:=⟨1,0,0⟩) FK.o2_ok di di rfl (jk E ai) E.quiet rfl di di;rw[FK.E2] at this;exact this
theorem o5_do (E:FK.Dk N σ) (I:N<=1000000000):eh 23 [aX h,.int .i64 4,.int .u64 2,gD] (cd h f e j d p FK.o5 FK.J0 σ) λv m=>v=.int .i64 0/\m=cd h f e j d p FK.o6 FK.J0 (cC σ FK.J0 4 2):=by
 have:=kT (h:=h) (f:=f) (e:=e) (j:=j) (d:=d) (p:=p) (J:=FK.J0) (t:=2) (P:=⟨1,0,0⟩) FK.o5_ok di di rfl (jk E ai) E.quiet rfl di;rw[FK.EZ] at this;exact this
theorem o7_do (E:FK.Dk N σ) (I:N<=1000000000):eh 23 [aX h,.int .i64 4,.int .u64 3,gD] (cd h f e j d p FK.o7 FK.J0 σ) λv m=>v=.int .i64 0/\m=cd h f e j d p FK.o8 FK.J0 (cC σ FK.J0 4 3):=by
 have:=kT (h:=h) (f:=f) (e:=e) (j:=j) (d:=d) (p:=p) (J:=FK.J0) (t:=3) (P:=⟨1,1,0⟩) FK.o7_ok di di rfl (jk E ai) E.quiet rfl di;rw[FK.EX] at this;exact this
theorem Jb (E:FK.Dk N σ) (K:N<=1000000000):eh 23 [aX h,.int .i64 7,.int .u64 3,gD] (cd h f e j d p FK.o3 FK.J0 σ) λv m=>v=.int .i64 0/\m=cd h f e j d p FK.o4 FK.J0 (cC σ FK.J0 7 3):=by
 refine(tE (h:=h) (f:=f) (e:=e) (j:=j) (d:=d) (p:=p) (J:=FK.J0) (n:=3) FK.E1 di di Z (jk E ai) E.quiet di di).mono ?_;rintro v m ⟨rfl,U,I,rfl⟩;rw[FK.o4_eq I];exact⟨_,⟨rfl,rfl⟩,aN⟩
end
def qZ:FK.Dsk:=cC (cC (cC (cC (cC (cC (cC (FK.e0.logs FK.J0.n (dN (FK.frame (1::FK.bo FK.flow2)))) FK.J0 2 0) FK.J0 5 1) FK.J0 7 3) FK.J0 2 0) FK.J0 4 2) FK.J0 2 0) FK.J0 4 3
theorem wM:eh 16 [] [] λv m=>∃h f e j d p,v=aX h/\m=cd h f e j d p FK.o8 FK.J0 qZ:=by
 refine bz Tryz.func16 Z λE fr hE=>aB<|sS<|sB Z<|sS ?_
 refine ch Z wP aN ?_;rintro v m ⟨h,d,rfl,rfl⟩;refine az<|sB Z<|sS ?_
 refine bV Z eB aN ?_;refine aB<|sO (cX (z:=.agg #[.int .i64 0,.int .i64 0,.int .i64 0,.int .i64 0]) Z λb2=>?_)
 refine sO<|aZ Z (m:=4) (vs:=cg (-1) (-1) 0 0) Z Z Z Z fx (by show 0+4<=4;omega) ?_
 refine aD b2 (cg (-1) (-1) 0 0).toArray Z<|sN<|bg Z<|cE (bR (vs:=cg (-1) (-1) 0 0) Z) (aR Z) ?_
 refine ch Z (y8 (h:=h) (d:=d)) (aY bM bM) ?_;rintro v m ⟨rfl,f,e,j,p,rfl⟩;refine bH<|sB Z<|sS<|sP (bT (ps:=[(0,.const (.int .i64 2)),(1,.const (.int .i64 9)),(3,.const (.int .i64 3)),(4,.const (.int .i64 9))]) (vs:=[.int .i64 2,.int .i64 9,.int .i64 3,.int .i64 9]) (cs:=(aP ⟨2,9,0,3,9,0,[]⟩ (.slice none 0 0)).toArray) Z Z Z Z Z)<|sO (eE Z Z Z Z Z Z λb35=>(sP (bT (ps:=[(0,.const (.int .i64 1)),(1,.const (.int .i64 9)),(3,.const (.int .i64 1)),(4,.const (.int .i64 1)),(6,.tmp 35)]) (vs:=[.int .i64 1,.int .i64 9,.int .i64 1,.int .i64 1,.slice (some ⟨b35,0,none⟩) 1 1]) (cs:=(aP ⟨1,9,0,1,1,0,[0]⟩ (.slice (some ⟨b35,0,none⟩) 1 1)).toArray) Z Z Z Z Z) ?_))
 refine sO (dB (m:=2) (z:=.agg #[.int .i64 0,.int .i64 0,.int .i64 0,.int .i64 0,.int .i64 0,.int .i64 0,.slice none 0 0]) (size:=7) (ps:=[(0,.tmp 34),(1,.tmp 36)]) (vs:=[.agg (aP ⟨2,9,0,3,9,0,[]⟩ (.slice none 0 0)).toArray,.agg (aP ⟨1,9,0,1,1,0,[0]⟩ (.slice (some ⟨b35,0,none⟩) 1 1)).toArray]) (cs:=(bU FK.flow2.Lw [.slice none 0 0,.slice (some ⟨b35,0,none⟩) 1 1]).toArray) Z Z Z Z ai ai Z (BA _ _ _ _ Z Z) λb37=>?_);refine al (BG (b37:=b37) (b35:=b35))<|sP (bT (ps:=[(0,.const (.int .i64 100)),(1,.tmp 37)]) (vs:=[.int .i64 100,.slice (some ⟨b37,0,none⟩) 2 2]) (cs:=#[.int .i64 100,.slice (some ⟨b37,0,none⟩) 2 2]) Z Z Z Z Z)<|sO<|iP Z Z Z hE (pg 100 FK.flow2.Lw (some ⟨b37,0,none⟩) 2 (Ho FK.flow2_fit)) (nodesOwn.at (c:=2) (ns:=FK.flow2.Lw) .head (pX FK.flow2_fit)) ?_
 rintro v m hv;obtain⟨bv,rfl,rfl⟩:∃bv,v=.tuple #[bv,.int .i64 0,.int .i64 (-1)]/\m=[bP bv (FK.bo FK.flow2)]:=by
  rcases hv with⟨_,h⟩|⟨h,_⟩
  · exact h
  · exact absurd (by rw[show(⟨100,FK.flow2.Lw⟩:FK.Flow)=FK.flow2 from Z,FK.flow2_fit.chk]) h
 refine ae<|aI .head ?_
 rintro A4 c4 rfl f1 f2 - - -
 obtain⟨f7,LB⟩:=jL f1 f2;refine al (l':=bN h d f::dT f e j::aG e p FK.En.fresh::aM j d FK.J0::ar d FK.e0::bP (.slice A4 (FK.bo FK.flow2).length c4) (FK.bo FK.flow2)::blk b2 49 (cg (-1) (-1) 0 0).toArray::fr) ap ?_;refine sM Z<|bG Z Z<|bG Z Z<|bG Z Z<|sA Z<|sA Z<|sB Z<|bg Z<|sM Z<|cE (bR (vs:=cg (-1) (-1) 0 0) Z) (aR Z) ?_
 refine ch Z (pj (h:=h) (f:=f) (e:=e) (j:=j) (d:=d) (p:=p) (J:=FK.J0) (σ:=FK.e0) (bs:=FK.bo FK.flow2) (fl:=FK.flow2) FK.Ok.fresh di Z (jk FK.Dk.e0 ai) FK.sE f7 LB (by have:=FK.flow2_fit.encLen;omega) (FK.nz FK.flow2_fit) FK.flow2_fit Z di di) aN ?_;rintro v m ⟨rfl,S0,p',f8,rfl⟩;refine jK ?_;obtain rfl:=FK.cut0 f8;rw[FK.J6];clear f8;obtain⟨σ1,Fd⟩:∃σ,σ=FK.e0.logs FK.J0.n (dN (FK.frame (1::FK.bo FK.flow2))):=⟨_,rfl⟩;rw[<-Fd];have f9:FK.Dk 100000 σ1:=Fd▸EF FK.Dk.e0 0 FK.flow2_fit;refine al (l':=bN h d f::dT f e j::aG e p' FK.o1::aM j d FK.J0::ar d σ1::blk b2 49 (cg (-1) (-1) 0 0).toArray::fr) ap ?_;refine sM Z<|bG Z Z<|bG Z Z<|bG Z Z<|sA Z<|sA Z<|sB Z<|bg Z<|cE (bR (vs:=cg (-1) (-1) 0 0) Z) (aR Z) ?_
 refine bV Z (Jc f9 ai) aN ?_;refine bH ?_;obtain⟨σ2,K⟩:∃σ,σ=cC σ1 FK.J0 2 0:=⟨_,rfl⟩;rw[<-K];have d9:FK.Dk 200000 σ2:=K▸kJ f9 FK.J0 2 di;refine sM Z<|bG Z Z<|bG Z Z<|bG Z Z<|sO (cX (z:=.agg #[.int .u64 0,.int .i64 0,.int .i64 0,.int .u64 0]) Z λI=>?_)
 refine sO<|aZ Z (m:=4) (vs:=bS 1 0 1 1) Z Z Z Z fx (by show 0+4<=4;omega) ?_
 refine aD I (bS 1 0 1 1).toArray Z ?_;refine al (l':=bN h d f::dT f e j::aG e p' FK.o2::aM j d FK.J0::ar d σ2::blk I 78 (bS 1 0 1 1).toArray::blk b2 49 (cg (-1) (-1) 0 0).toArray::fr) ap ?_;refine sA Z<|sB Z<|bg Z<|cE (bR (vs:=cg (-1) (-1) 0 0) Z) (aR Z) ?_
 refine bV Z (ld d9.quiet Z) aN ?_;refine bH<|sM Z<|bG Z Z<|bG Z Z<|bG Z Z<|sO (cX (z:=.agg #[.int .u64 0,.int .i64 0,.int .i64 0,.int .u64 0]) Z λLC=>?_)
 refine sO<|aZ Z (m:=4) (vs:=bS 0 0 0 0) Z Z Z Z fx (by show 0+4<=4;omega) ?_
 refine aD LC (bS 0 0 0 0).toArray Z ?_;refine al (l':=bN h d f::dT f e j::aG e p' FK.o2::aM j d FK.J0::ar d σ2::blk I 78 (bS 1 0 1 1).toArray::blk b2 49 (cg (-1) (-1) 0 0).toArray::fr) ap ?_;refine sA Z<|sB Z<|bg Z<|bX 3 Z<|aE Z Z Z Z<|cE (bR (vs:=cg (-1) (-1) 0 0) Z) (aR Z) ?_
 refine bV Z (o2_do d9 ai) aN ?_;refine bH ?_;obtain⟨σ3,O⟩:∃σ,σ=cC σ2 FK.J0 5 1:=⟨_,rfl⟩;rw[<-O];have mt:FK.Dk 300000 σ3:=O▸kJ d9 FK.J0 5 di;refine sB Z<|bg Z<|cE (bR (vs:=cg (-1) (-1) 0 0) Z) (aR Z) ?_
 refine bV Z (Jb mt ai) aN ?_;refine bH ?_;obtain⟨σ4,T⟩:∃σ,σ=cC σ3 FK.J0 7 3:=⟨_,rfl⟩;rw[<-T];have t6:FK.Dk 400000 σ4:=T▸kJ mt FK.J0 7 di;refine sB Z<|bg Z<|cE (bR (vs:=cg (-1) (-1) 0 0) Z) (aR Z) ?_
 refine bV Z (Ja t6 ai) aN ?_;refine bH ?_;obtain⟨σ5,Y⟩:∃σ,σ=cC σ4 FK.J0 2 0:=⟨_,rfl⟩;rw[<-Y];have t7:FK.Dk 500000 σ5:=Y▸kJ t6 FK.J0 2 di;refine sM Z<|bG Z Z<|bG Z Z<|bG Z Z<|sO (cX (z:=.agg #[.int .u64 0,.int .i64 0,.int .i64 0,.int .u64 0]) Z λBT=>?_)
 refine sO<|aZ Z (m:=4) (vs:=bS 1 0 2 2) Z Z Z Z fx (by show 0+4<=4;omega) ?_
 refine aD BT (bS 1 0 2 2).toArray Z ?_;refine al (l':=bN h d f::dT f e j::aG e p' FK.o5::aM j d FK.J0::ar d σ5::blk BT 78 (bS 1 0 2 2).toArray::blk I 78 (bS 1 0 1 1).toArray::blk b2 49 (cg (-1) (-1) 0 0).toArray::fr) ap ?_;refine sA Z<|sB Z<|bg Z<|bX 3 Z<|aE Z Z Z Z<|cE (bR (vs:=cg (-1) (-1) 0 0) Z) (aR Z) ?_
 refine bV Z (o5_do t7 ai) aN ?_;refine bH ?_;obtain⟨σ6,d6⟩:∃σ,σ=cC σ5 FK.J0 4 2:=⟨_,rfl⟩;rw[<-d6];have t8:FK.Dk 600000 σ6:=d6▸kJ t7 FK.J0 4 di;refine sB Z<|bg Z<|cE (bR (vs:=cg (-1) (-1) 0 0) Z) (aR Z) ?_
 refine bV Z (I9 t8 ai) aN ?_;refine bH ?_;obtain⟨σ7,d7⟩:∃σ,σ=cC σ6 FK.J0 2 0:=⟨_,rfl⟩;rw[<-d7];have wf:FK.Dk 700000 σ7:=d7▸kJ t8 FK.J0 2 di;refine sM Z<|bG Z Z<|bG Z Z<|bG Z Z<|sO (cX (z:=.agg #[.int .u64 0,.int .i64 0,.int .i64 0,.int .u64 0]) Z λIn=>?_)
 refine sO<|aZ Z (m:=4) (vs:=bS 1 1 1 3) Z Z Z Z fx (by show 0+4<=4;omega) ?_
 refine aD In (bS 1 1 1 3).toArray Z ?_;refine al (l':=bN h d f::dT f e j::aG e p' FK.o7::aM j d FK.J0::ar d σ7::blk In 78 (bS 1 1 1 3).toArray::blk BT 78 (bS 1 0 2 2).toArray::blk I 78 (bS 1 0 1 1).toArray::blk b2 49 (cg (-1) (-1) 0 0).toArray::fr) ap ?_;refine sA Z<|sB Z<|bg Z<|bX 3 Z<|aE Z Z Z Z<|cE (bR (vs:=cg (-1) (-1) 0 0) Z) (aR Z) ?_
 refine bV Z (o7_do wf ai) aN ?_;refine bH ?_;obtain⟨σ8,d8⟩:∃σ,σ=cC σ7 FK.J0 4 3:=⟨_,rfl⟩;rw[<-d8];have LF:FK.Dk 800000 σ8:=d8▸kJ wf FK.J0 4 di;refine sB Z<|bg Z<|sM Z ?_
 refine ch Z (gA (id:=1) (R:=FK.vE 2 ⟨5,2,0⟩ ⟨5,1,0⟩ 1) FK.uv Z) aN ?_;rintro v m ⟨A2,c2,A3,c3,rfl,rfl⟩;refine iV<|sM Z<|bG Z Z<|bG Z Z<|sO (cX (z:=.agg #[.int .u64 0,.int .i64 0,.slice none 0 0,.slice none 0 0]) Z λLD=>?_)
 refine sO<|aZ Z (m:=4) (vs:=dh 1 2 (.slice A2 2 c2) (.slice A3 2 c3)) Z Z Z Z fx (by show 0+4<=4;omega) ?_
 refine aD LD (dh 1 2 (.slice A2 2 c2) (.slice A3 2 c3)).toArray Z<|sB Z<|sQ<|bg Z<|sP (dq Z Z Z)<|sM Z<|iC Z<|eJ (dq Z Z Z)<|sP (aS Z Z Z)<|sM Z<|iC Z<|eJ (dq Z Z Z)<|sP (aS Z Z Z)<|sM Z<|iC Z<|eJ (dq Z Z Z) ?_
 refine sP (aS Z Z Z)<|sM Z<|iC Z<|eJ (dq Z Z Z)<|sP (aS Z Z Z)<|sM Z<|iC Z<|eJ (dq Z Z Z)<|sP (aS Z Z Z)<|sM Z<|iC Z<|eJ (dq Z Z Z)<|sP (aS Z Z Z)<|sM Z<|iC Z<|eJ (dq Z Z Z)<|sP (aS Z Z Z)<|sM Z<|iC Z<|eJ (dq Z Z Z) ?_
 refine sP (aS Z Z Z)<|sN<|ak Z<|ah<|sT<|sQ<|bg Z<|sP (dq Z Z Z)<|sM Z<|iC Z<|eJ (dp Z Z)<|sP (aS Z Z Z)<|sM Z<|iC Z<|sP (aS Z Z Z)<|sM Z<|iC Z ?_
 refine eJ (dp Z Z)<|sP (aS Z Z Z)<|sM Z<|iC Z<|eJ (dp Z Z)<|sP (aS Z Z Z)<|sM Z<|eJ (bL 1 Z)<|mJ (aF Z) (ag Z)<|eJ (dq Z Z Z)<|sP (aS Z Z Z)<|sM Z<|eJ (bL 2 Z)<|mJ (aF Z) (ag Z)<|eJ (dq Z Z Z)<|sP (aS Z Z Z)<|sM Z<|eJ (bL 1 Z)<|mJ (aF Z) (ag Z)<|eJ (dq Z Z Z) ?_
 refine sP (aS Z Z Z)<|sM Z<|eJ (bL 2 Z)<|mJ (aF Z) (ag Z)<|eJ (dq Z Z Z)<|sP (aS Z Z Z)<|sM Z<|eJ (bL 3 Z)<|mJ (aF Z) (ag Z)<|eJ (bL 3 Z)<|mJ (aF Z) (ag Z)<|eJ (bC Z Z Z)<|sP (aS Z Z Z)<|sM Z<|eJ (bL 1 Z)<|mJ (aF Z) (ag Z)<|eJ (dq Z Z Z)<|sP (aS Z Z Z)<|sM Z<|eJ (bL 1 Z) ?_
 refine mJ (aF Z) (ag Z)<|eJ (dq Z Z Z)<|sP (aS Z Z Z)<|sN<|ak Z<|ah<|sT<|bg Z<|sB Z<|an ?_
 have LE:σ8=qZ:=by rw[d8,d7,d6,Y,T,O,K,Fd];rfl
 refine aw (cd h f e j d p' FK.o8 FK.J0 σ8) Z Z ⟨h,f,e,j,d,p',rfl,by rw[LE]⟩ ?_;show Ent _ (bN h d f::dT f e j::aG e p' FK.o8::aM j d FK.J0::ar d σ8::fr);exact ap
end Go.Y

namespace FK
structure Lg (N:Nat) (l:List (List UInt8)) (S:En):Prop where
 reds:Reds En.fresh l S
 len:(frames l).length<=N
theorem Lg.mono {N M:Nat} {l:List (List UInt8)} {S:En} (h:Lg N l S) (E:N<=M):Lg M l S:=⟨h.reds,Nat.le_trans h.len E⟩
theorem Lg.snoc {N:Nat} {l:List (List UInt8)} {S U:En} (h:Lg N l S) (E:Fine S) {b:List UInt8} (K:b.length<=1000000) (I:Redo S b U):Lg (N+b.length+20) (l++[b]) U:=by
 refine⟨h.reds.snoc E ai I,?_⟩;have O:=h.len;have T:=Go.Y.il b ai;rw[lh,List.length_append];omega
theorem vu {op n:Nat} (E:n<18446744073709551616):(bW op n).length<=11:=by
 have:=Go.Y.gq E;unfold bW;simp only[List.length_cons];omega
theorem Lg.note {N:Nat} {l:List (List UInt8)} {S U:En} (h:Lg N l S) (E:Fine S) {op n:Nat} (I:n<18446744073709551616) (K:Redo S (bW op n) U):Lg (N+31) (l++[bW op n]) U:=by
 have O:=vu (op:=op) I;exact(h.snoc E ai K).mono ai
end FK
namespace Go.Y
open Go.Proofs
open Go Go.RowKit Go.SL
theorem jE (l:List (List UInt8)) (k:Int) (op n:Nat):cC (FK.py l k) FK.J0 op n=FK.py (l++[FK.bW op n]) k:=FK.xQ l _ k
theorem D9 {N:Nat} {l:List (List UInt8)} {S:FK.En} (h:FK.Lg N l S) (E:N<=1000000000):Roomy (FK.py l 1):=by
 have K:=h.len;obtain⟨I,h3⟩:=FK.Jk l 1;exact jk (N:=N) ⟨FK.pR l,ai,ai⟩ ai
theorem yN:∃l,qZ=FK.py l 1/\FK.Lg 1000 l FK.o8:=by
 have fine:∀S:FK.En,FK.Ok S->S.sets<=10->S.ends<=10->S.Ls<=10->S.Lt<=10->FK.Fine S:=λS h a b c d=>⟨h,ai,ai,ai,ai⟩;have I:FK.Lg 0 [] FK.En.fresh:=⟨.nil,cm _⟩;have E:=FK.flow2_fit.encLen;have K:FK.Redo FK.En.fresh (1::FK.bo FK.flow2) FK.o1:=FK.Redo.submit (S0:=FK.En.fresh) (FK.nz FK.flow2_fit) FK.flow2_fit ai (show FK.Cut FK.En.fresh FK.En.fresh from rfl) (λS1 h=>FK.cut0 h);have hb:(1::FK.bo FK.flow2).length<=400:=by decide +kernel
 have O:=I.snoc (fine _ FK.Ok.fresh di di di di) ai K;have T:FK.Redo FK.o1 (FK.bW 2 0) FK.o2:=FK.E3▸FK.Redo.poll rfl rfl rfl rfl;have Y:=O.note (fine _ FK.o1_ok di di di di) (n:=0) di T;have r3:FK.Redo FK.o2 (FK.bW 5 1) FK.o3:=FK.E2▸FK.Redo.fail (P:=⟨1,0,0⟩) di rfl;have g3:=Y.note (fine _ FK.o2_ok di di di di) (n:=1) di r3;have r4:FK.Redo FK.o3 (FK.bW 7 3) FK.o4:=FK.Redo.tick di (show FK.Ticks (FK.o3.later 3) FK.o3 FK.o4 from FK.o4_ticks);have g4:=g3.note (fine _ FK.E1 di di di di) (n:=3) di r4;have r5:FK.Redo FK.o4 (FK.bW 2 0) FK.o5:=FK.E0▸FK.Redo.poll rfl rfl rfl rfl;have g5:=g4.note (fine _ FK.o4_ok di di di di) (n:=0) di r5;have r6:FK.Redo FK.o5 (FK.bW 4 2) FK.o6:=FK.EZ▸FK.Redo.complete (P:=⟨1,0,0⟩) di rfl;have g6:=g5.note (fine _ FK.o5_ok di di di di) (n:=2) di r6;have r7:FK.Redo FK.o6 (FK.bW 2 0) FK.o7:=FK.EY▸FK.Redo.poll rfl rfl rfl rfl;have g7:=g6.note (fine _ FK.o6_ok di di di di) (n:=0) di r7;have r8:FK.Redo FK.o7 (FK.bW 4 3) FK.o8:=FK.EX▸FK.Redo.complete (P:=⟨1,1,0⟩) di rfl;have g8:=g7.note (fine _ FK.o7_ok di di di di) (n:=3) di r8;refine⟨_,?_,g8.mono ai⟩;unfold qZ;rw[show FK.J0.n=0 from rfl,FK.JO,jE,jE,jE,jE,jE,jE,jE]
 rfl
abbrev E8 (h f e j d:Nat) (p:EA) (S:FK.En) (l:List (List UInt8)):List HP:=cd h f e j d p S FK.J0 (FK.py l 1)
section
variable {S:FK.En} {σ:FK.Dsk} {J:FK.Jn} {d e f h j t:Nat} {p:EA} {nd:FK.Node} {R:FK.Rn}
theorem zt (I:S.Ly.any (·.1==t)=false):eh 40 [aX f,aV t] (dg f e j d p S J σ) λv m=>v=dO 7/\m=dg f e j d p S J σ:=by
 refine bz Tryz.func40 Z λE fr K=>cc<|sS<|sB Z<|bg Z<|sM Z ?_
 refine bV Z (og (op:=3) I) aN ?_;exact cc<|sB Z<|an<|aw (dg f e j d p S J σ) Z Z ⟨rfl,rfl⟩ aN
theorem zr {id k:Nat} {wh:Int} (h:FK.Ok S) (T:t<18446744073709551616) (Y:J.n<1000000) (hr:Roomy σ) (O:(S.Ly.find? (·.1==t)).map (·.2)=some ⟨id,(k:Int),wh⟩) (hR:S.getR id=some R) (hnd:R.fl.Lw[k]?=some nd) (I:S.sets<9223372036854775807):eh 40 [aX f,aV t] (dg f e j d p S J σ) (CallPost f e j d p S J σ 3 t λU=>U=S.life ⟨id,(k:Int),wh⟩ nd):=by
 refine bz Tryz.func40 Z λE fr hE=>cc<|sS<|sB Z<|bg Z<|sM Z ?_
 refine ch Z (oe (op:=3) (Q:=λU=>U=S.life ⟨id,(k:Int),wh⟩ nd) (sJ O) (nS (op:=3) ai T Y hr (yf ((C4 h O hR hnd I).mono λv m K=>⟨m,⟨K.1,_,rfl,K.2⟩,aN⟩)))) aN ?_;rintro v m K;exact sB Z<|an<|aw m Z Z K aN
theorem vm {n:Nat} {Q:Int->FK.En->FK.Jn->FK.Dsk->Prop} (hQ:FK.Quiet σ)
 (hC:eh 40 [aX f,aV n] (dg f e j d p S J σ) λv m=>∃c U K I,v=dO c/\I.down=false/\Q c U K I/\m=dg f e j d p U K I):eh 23 [aX h,.int .i64 3,aV n,gD] (cd h f e j d p S J σ) λv m=>∃c U K I,v=.int .i64 c/\Q c U K I/\m=cd h f e j d p U K I.rested:=by
 refine bz Tryz.func23 Z λE fr hE=>bH<|sS<|sO (cL Z Z λO=>(sB Z (sQ (sS (sM Z (dA Z (bX 1 Z (aE Z Z Z Z (sP (ez Z Z Z) (sN (ak Z (ah (sT ?_)))))))))))))
 refine bg Z<|cE (bR (vs:=cg (-1) (-1) 0 0) Z) (aR Z) ?_
 refine bV Z (eO (-1) (-1) 0 0) (aY bM lp) ?_;refine az ?_;rw[quietE hQ];refine al (l':=dT f e j::aG e p S::aM j d J::ar d σ::bN h d f::blk O 49 (cg (-1) (-1) 0 0).toArray::fr) (by show Ent (_::_::blk O 49 (cg (-1) (-1) 0 0).toArray::_) _;exact ap) ?_;refine sN<|sS<|sB Z<|sQ<|bg Z<|sN<|aj<|sS<|sP (bC Z Z Z)<|sB Z ?_
 refine aO Z<|sG<|dS 1 Z Z<|aE Z Z Z Z<|sM Z ?_
 refine ch Z hC aN ?_;rintro v m ⟨c,U,K,I,rfl,T,Y,rfl⟩;refine cc<|sA Z<|aq<|am<|sT<|sQ ?_
 refine al (l':=bN h d f::ar d I::dT f e j::aG e p U::aM j d K::blk O 49 (cg (-1) (-1) 0 0).toArray::fr) ap ?_;refine sG<|sM Z<|cE (bR (vs:=cg (-1) (-1) 0 0) Z) (aR Z) ?_
 refine bV Z (fh (-1) (-1) 0 0 T) aN ?_;refine az<|sN<|bg Z ?_
 refine bV Z (mo c) aN ?_;refine aB<|sB Z<|an<|aw (cd h f e j d p U K I.rested) Z Z ⟨c,U,K,I,rfl,Y,rfl⟩ ?_
 show Ent _ (bN h d f::dT f e j::aG e p U::aM j d K::ar d I.rested::fr);exact ap
theorem Bn {id k:Nat} {wh:Int} (T:FK.Ok S) (Y:t<18446744073709551616) (hJ:J.n<1000000) (hb:J.broken=0) (hr:Roomy σ) (I:FK.Quiet σ) (ht:(S.Ly.find? (·.1==t)).map (·.2)=some ⟨id,(k:Int),wh⟩) (hR:S.getR id=some R) (hnd:R.fl.Lw[k]?=some nd) (E:S.sets<9223372036854775807):eh 23 [aX h,.int .i64 3,aV t,gD] (cd h f e j d p S J σ) λv m=>v=.int .i64 0/\m=cd h f e j d p (S.life ⟨id,(k:Int),wh⟩ nd) J (cC σ J 3 t):=by
 refine(vm (Q:=λc U K O=>c=0/\U=S.life ⟨id,(k:Int),wh⟩ nd/\K=J/\O.rested=cC σ J 3 t) I ((zr T Y hJ hr ht hR hnd E).mono λv m hv=>⟨m,hv.well I hb,aN⟩)).mono ?_;rintro v m ⟨c,U,K,O,rfl,⟨rfl,rfl,rfl,h4⟩,rfl⟩;refine⟨_,⟨rfl,rfl⟩,?_⟩;rw[h4];exact aN
theorem zb (E:FK.Quiet σ) (T:S.Ly.any (·.1==t)=false):eh 23 [aX h,.int .i64 3,aV t,gD] (cd h f e j d p S J σ) λv m=>v=.int .i64 7/\m=cd h f e j d p S J σ:=by
 refine(vm (Q:=λc U I K=>c=7/\U=S/\I=J/\K=σ) E ((zt T).mono λv m O=>⟨m,⟨7,S,J,σ,O.1,E.down,⟨rfl,rfl,rfl,rfl⟩,O.2⟩,aN⟩)).mono ?_;rintro v m ⟨c,U,I,K,rfl,⟨rfl,rfl,rfl,rfl⟩,rfl⟩;refine⟨_,⟨rfl,rfl⟩,?_⟩;rw[E.rested];exact aN
theorem qQ (E:FK.Quiet σ) (T:S.Ly.any (·.1==t)=false):eh 23 [aX h,.int .i64 4,aV t,gD] (cd h f e j d p S J σ) λv m=>v=.int .i64 7/\m=cd h f e j d p S J σ:=by
 refine(vl (Q:=λc U I K=>c=7/\U=S/\I=J/\K=σ) E ((qT T).mono λv m O=>⟨m,⟨7,S,J,σ,O.1,E.down,⟨rfl,rfl,rfl,rfl⟩,O.2⟩,aN⟩)).mono ?_;rintro v m ⟨c,U,I,K,rfl,⟨rfl,rfl,rfl,rfl⟩,rfl⟩;refine⟨_,⟨rfl,rfl⟩,?_⟩;rw[E.rested];exact aN
theorem y9 (E:FK.Quiet σ) (T:S.Ly.any (·.1==t)=false):eh 23 [aX h,.int .i64 5,aV t,gD] (cd h f e j d p S J σ) λv m=>v=.int .i64 7/\m=cd h f e j d p S J σ:=by
 refine(vk (Q:=λc U I K=>c=7/\U=S/\I=J/\K=σ) E ((zp T).mono λv m O=>⟨m,⟨7,S,J,σ,O.1,E.down,⟨rfl,rfl,rfl,rfl⟩,O.2⟩,aN⟩)).mono ?_;rintro v m ⟨c,U,I,K,rfl,⟨rfl,rfl,rfl,rfl⟩,rfl⟩;refine⟨_,⟨rfl,rfl⟩,?_⟩;rw[E.rested];exact aN
theorem zq {I:Value}:eh 38 [aX f] [i7 f e I,aG e p S] λv m=>v=.tuple #[aV S.now,aV S.seed]/\m=[i7 f e I,aG e p S]:=by
 refine bz Tryz.func38 Z λE fr K=>az<|sS<|sA Z<|sB Z<|sS<|dS 0 Z Z<|aE Z Z Z Z ?_
 refine bV Z BO gfE1 ?_;exact ae<|bG Z Z<|bG Z Z<|sA Z<|sB Z<|an<|db [i7 f e I,aG e p S] rfl Z Z ⟨rfl,rfl⟩ gfE1
theorem za:eh 21 [aX h] (cd h f e j d p S J σ) λv m=>v=.tuple #[aV S.now,aV S.seed]/\m=cd h f e j d p S J σ:=by
 refine bz Tryz.func21 Z λE fr I=>bH<|sS<|sA Z<|sB Z<|sQ<|sS<|dS 1 Z Z<|aE Z Z Z Z<|sP (ez Z Z Z)<|sN<|ak Z<|ah<|sT ?_
 refine sS<|dS 1 Z Z<|aE Z Z Z Z ?_
 refine bV Z zq (aY bM bM) ?_;refine az<|bG Z Z<|bG Z Z<|sA Z<|sB Z<|an<|db (cd h f e j d p S J σ) Z Z Z ⟨rfl,rfl⟩ ?_
 show Ent _ (bN h d f::dT f e j::aG e p S::aM j d J::ar d σ::fr);exact ap
end
open Go.Proofs Go.RowKit
end Go.Y

namespace Go.Y
open Go.Proofs Go.RowKit Go.SL
variable {G:Env->Prop}
theorem Eq {E:Int} {ns:List FK.Node} (h:FK.Fit ⟨E,ns⟩):pf ns:=⟨by have I:ns.length<=12:=h.head.2.2;omega,λnd hnd=>by
 obtain⟨i,hi⟩:=List.getElem?_of_mem hnd;have K:=FK.mq _ _ (h.Lw i nd (FK.cB hi) hi).2;have O:ns.length<=12:=h.head.2.2;simp only at K;omega⟩
theorem zm (nd:FK.Node) (A:Option Addr) (n c:Nat) (k:Int) (seed:Nat) (I:1<=nd.base) (K:nd.base<=nd.cap) (h3:nd.cap<=1048576) (O:0<=nd.LA) (T:nd.LA<=1048576) (Y:seed<18446744073709551616):dZ G 46 [.agg (aP nd (.slice A n c)).toArray,.int .i64 k,.int .u64 seed] [] λv m=>v=.int .i64 (FK.fk nd.base nd.cap nd.LA k seed)/\m=[]:=by
 refine bz Tryz.func46 Z λE fr hE=>aB<|sS<|sO (cL Z Z λb3=>(sB Z (sS (cE (bR (vs:=aP nd (.slice A n c)) Z) (aR Z) (sM Z (sM Z ?_))))))
 refine bV Z (uP nd A n c k seed I K h3 O T Y) aN ?_;exact aB<|sB Z<|an<|aw [] rfl Z ⟨rfl,rfl⟩ Ent.drop
theorem yM (nd:FK.Node) (A:Option Addr) (n c:Nat) (k:Int) (seed:Nat) (I:1<=nd.base) (K:nd.base<=nd.cap) (h3:nd.cap<=1048576) (O:0<=nd.LA) (T:nd.LA<=1048576) (Y:seed<18446744073709551616):dZ G 24 [.agg (aP nd (.slice A n c)).toArray,.int .i64 k,.int .u64 seed] [] λv m=>v=.int .i64 (FK.fk nd.base nd.cap nd.LA k seed)/\m=[]:=by
 refine bz Tryz.func24 Z λE fr hE=>aB<|sS<|sO (cL Z Z λb3=>(sB Z (sS (cE (bR (vs:=aP nd (.slice A n c)) Z) (aR Z) (sM Z (sM Z ?_))))))
 refine bV Z (zm nd A n c k seed I K h3 O T Y) aN ?_;exact aB<|sB Z<|an<|aw [] rfl Z ⟨rfl,rfl⟩ Ent.drop
end Go.Y

namespace Go.SL
open Go.RowKit
section
variable {P:Program} {E:Env} {n:Nat} {D:List Deferred} {ts:List (Nat×Value)} {l:List HP} {ops:Array Oper} {Q:Exit->Act->World->Prop} {rest:List Oper} {i:Nat} {ty:TypeId} {pos:String} {af:Array Edge} {g:Option (Nat×Bool)}
end
end Go.SL

namespace FK
end FK
namespace Go.Y
open Go.Proofs
open Go Go.RowKit Go.SL
theorem Bz (id:Nat) (j t:Int) (tok:Nat) (x:Nat):Instr.fill (λi=>some (i*4,4)) (Array.map (λx=>(jR 0 0 0 0).cells[x%(jR 0 0 0 0).cells.size]!) (Array.range (1*4))) ((List.map (λx=>x.fst) [((0:Nat),Operand.tmp x)]).zip [jR id j t tok])=some (bS id j t tok).toArray:=by
 have e1:Array.range (1*4)=#[0,1,2,3]:=rfl;rw[e1];simp[Instr.fill,Value.cells]
end Go.Y

namespace FK
theorem xL:∀a A,o8.getR a=some A->A.state≠1:=λa A h=>by
 unfold En.getR o8 at h;rw[List.find?_cons] at h
 split at h
 · injection h with h
   subst h;decide
 · cases h
theorem cut8 {S0:En} (h:Cut o8 S0):S0=o8:=h
structure Run2 (N:Nat) (F:Flow) (l:List (List UInt8)) (S:En) (R:Rn):Prop where
 lone:Lone 2 F S R
 lg:Lg N l S
theorem Few.fine {n:Nat} {S:En} (h:Few n S) (E:Ok S) (I:n<=10000000):Fine S:=⟨E,by have:=h.sets;omega,by have:=h.ends;omega,by have:=h.tok;omega,by have:=h.run;omega⟩
theorem Few.mono {n m:Nat} {S:En} (h:Few n S) (E:n<=m):Few m S:=⟨by have:=h.sets;omega,by have:=h.ends;omega,by have:=h.tok;omega,by have:=h.run;omega,by have:=h.now;omega⟩
end FK
namespace Go.Y
open Go.Proofs
open Go Go.RowKit Go.SL
def zN (h:Nat) (K:Int) (nv:Value) (run:Nat) (O rv T:Value) (E:Nat) (I:Int) (Y jv:Value):List Value:=[aX h,.int .i64 K,nv,aV run,O,rv,T,aV E,.int .i64 I,Y,jv]
abbrev dD (w h:Nat) (K:Int) (nv:Value) (run:Nat) (O rv T:Value) (E:Nat) (I:Int) (Y jv:Value):HP:=blk w 39 (zN h K nv run O rv T E I Y jv).toArray
abbrev eD (l:List Nat):List Value:=l.map λ(n:Nat)=>aV n
abbrev cM (v:Value) (l:List Nat):HP:=row 30 1 v l.length (eD l)
theorem z7 (n:Nat):List.replicate n (.int .i64 0)=bx (List.replicate n 0):=by simp[bx]
theorem zZ (n:Nat):List.replicate n (.int .u64 0)=eD (List.replicate n 0):=by simp[eD]
theorem CI:fV Tryz.prog 30 (.int .u64 0) 1 8:=by unfold fV;kernel_rfl
theorem th {a b n:Nat} {r:List HP} (h:n<=12):Ent (blk a 30 (List.replicate n (Value.int .u64 0)).toArray::blk b 3 (List.replicate n (Value.int .i64 0)).toArray::r) (cM (.slice (some ⟨a,0,none⟩) n n) (List.replicate n 0)::aU (.slice (some ⟨b,0,none⟩) n n) (List.replicate n 0)::r):=by
 have E:n<=maxLen:=by unfold maxLen;omega
 show Ent _ (row 30 1 _ (List.replicate n 0).length (eD (List.replicate n 0))::row 3 1 _ (List.replicate n (0:Int)).length (bx (List.replicate n 0))::r);rw[List.length_replicate,List.length_replicate,<-zZ,<-z7];exact(dI (cm _) E cP (by rw[List.take_of_length_le cP])).trans (Ent.cons (dI (cm _) E cP (by rw[List.take_of_length_le cP])))
theorem AA (I:Int) (ns:List FK.Node) (A:Option Addr) (c:Nat) (K:FK.Fit ⟨I,ns⟩):eh 5 [.agg #[.int .i64 I,.slice A ns.length c]] [nodesOwn (.slice A ns.length c) ns] λv m=>∃w h f e j d p l R rv yv,v=aX w/\FK.Seen 2 ⟨I,ns⟩ (FK.o8.submit ⟨I,ns⟩) R (λ_=>0) []/\FK.Lg 3000 l (FK.o8.submit ⟨I,ns⟩)/\m=dD w h I (.slice A ns.length c) 2 (.slice none 0 0) rv yv 0 0 (.slice none 0 0) (.slice none 0 0)::cM rv (List.replicate ns.length 0)::aU yv (List.replicate ns.length 0)::nodesOwn (.slice A ns.length c) ns::E8 h f e j d p (FK.o8.submit ⟨I,ns⟩) l:=by
 have t6:=Eq K;have t7:∀n∈ns,(i64 n.Lz/\i64 n.close/\i64 n.beat/\i64 n.base/\i64 n.cap/\i64 n.LA)/\∀x∈n.after,i64 x:=pX K;have f8:ns.length<=12:=K.head.2.2;obtain⟨R,d6,-,-⟩:=FK.Seen.begin FK.uv di K rfl FK.xL;refine bz Tryz.func5 Z λE fr hE=>ae<|sS<|sO (cL Z Z λb1=>(sB Z (sS ?_)))
 refine ch Z wM aN ?_;rintro v m ⟨h,f,e,j,d,p,rfl,rfl⟩;refine bH ?_;obtain⟨l0,mt,d8⟩:=yN;rw[mt];refine sB Z<|sQ<|bg Z<|sP (ez Z Z Z)<|sN<|ak Z<|ah<|sT<|sQ ?_
 refine al (l':=nodesOwn (.slice A ns.length c) ns::blk b1 25 #[.int .i64 I,.slice A ns.length c]::bN h d f::dT f e j::aG e p FK.o8::aM j d FK.J0::ar d (FK.py l0 1)::fr) (by show Ent (bN h d f::dT f e j::aG e p FK.o8::aM j d FK.J0::ar d (FK.py l0 1)::blk b1 25 #[.int .i64 I,.slice A ns.length c]::_) _;exact ap) ?_;refine sG<|cE (bR (vs:=[.int .i64 I,.slice A ns.length c]) Z) (aR Z)<|sO<|iP Z Z Z hE (pg I ns A c t6) (nodesOwn.at .head t7) ?_
 rintro v m hv;obtain⟨bv,rfl,rfl⟩:∃bv,v=.tuple #[bv,.int .i64 0,.int .i64 (-1)]/\m=[bP bv (FK.bo ⟨I,ns⟩)]:=by
  rcases hv with⟨_,h⟩|⟨h,_⟩
  · exact h
  · exact absurd (by rw[K.chk]) h
 refine ae<|aI .head ?_
 rintro A4 c4 rfl f1 f2 - - -
 obtain⟨d7,d9⟩:=jL f1 f2;refine al (l':=bN h d f::dT f e j::aG e p FK.o8::aM j d FK.J0::ar d (FK.py l0 1)::bP (.slice A4 (FK.bo ⟨I,ns⟩).length c4) (FK.bo ⟨I,ns⟩)::nodesOwn (.slice A ns.length c) ns::blk b1 25 #[.int .i64 I,.slice A ns.length c]::fr) ap ?_;refine sM Z<|bG Z Z<|bG Z Z<|bG Z Z<|sA Z<|sA Z<|sB Z<|bg Z<|sM Z ?_
 refine bV Z eB aN ?_;refine aB ?_;refine ch Z (pj (h:=h) (f:=f) (e:=e) (j:=j) (d:=d) (p:=p) (J:=FK.J0) (σ:=FK.py l0 1) (bs:=FK.bo ⟨I,ns⟩) (fl:=⟨I,ns⟩) FK.uv di Z (D9 d8 ai) (FK.pR l0) d7 d9 (by have:=K.encLen;omega) (FK.nz K) K Z di di) aN ?_;rintro v m ⟨rfl,S0,p',f7,rfl⟩;refine jK ?_;obtain rfl:=FK.cut8 f7;rw[show FK.J0.n=0 from rfl,FK.xQ];have t8:=K.encLen;have f9:FK.Lg 3000 (l0++[1::FK.bo ⟨I,ns⟩]) (FK.o8.submit ⟨I,ns⟩):=by
  refine(d8.snoc ⟨FK.uv,by decide,by decide,by decide,by decide⟩ (by simp only[List.length_cons];omega) (FK.Redo.submit (FK.nz K) K ai (show FK.Cut FK.o8 FK.o8 from Z) (λS1 h=>FK.cut8 h))).mono (by simp only[List.length_cons];omega)
 refine sM Z<|bG Z Z<|bG Z Z<|bG Z Z<|sA Z<|sA Z<|sB Z<|sQ<|bg Z<|sP (dq Z Z Z)<|sM Z<|iC Z<|eJ (dq Z Z Z)<|sP (aS Z Z Z)<|sN ?_
 refine ak Z<|ah<|sT<|sQ<|sZ Z<|eI Z Z<|bZ Z (bR (vs:=[.int .i64 I,.slice A ns.length c]) Z) (aR Z)<|cJ Z Z<|bF Z (bL 1 Z)<|bZ Z (aF Z) (ag Z)<|bF Z (bh Z Z)<|dr 7 Z (bL 1 Z)<|bZ Z (aF Z) (ag Z)<|bF Z (bh Z Z) ?_
 refine fo 6 10 Z Z Z Z eP (vS (z:=.int .u64 0) (bytes:=8) Z Z CI Z Z ai ai λO=>?_) (vS (z:=.int .i64 0) (bytes:=8) Z Z jf Z Z ai ai λT=>?_)
 ·
  refine dK [true,true,true] (aa (ag Z) (aa (ag Z) (aa (aR Z) ab))) ?_;refine cK 10 Z (vS (z:=.int .i64 0) (bytes:=8) Z Z jf Z Z ai ai λT=>?_);refine dK [true,true,true] (aa (ag Z) (aa (ag Z) (aa (aR Z) ab)))<|dr 11 Z (bT (ps:=[(0,.tmp 33),(1,.tmp 34),(2,.tmp 35),(4,.tmp 39),(5,.tmp 43)]) (vs:=[aX h,.agg #[.int .i64 I,.slice A ns.length c],aV 2,.slice (some ⟨O,0,none⟩) ns.length ns.length,.slice (some ⟨T,0,none⟩) ns.length ns.length]) (cs:=(zN h I (.slice A ns.length c) 2 (.slice none 0 0) (.slice (some ⟨O,0,none⟩) ns.length ns.length) (.slice (some ⟨T,0,none⟩) ns.length ns.length) 0 0 (.slice none 0 0) (.slice none 0 0)).toArray) Z Z Z Z Z)<|tV Z (cL Z Z λY=>(dK [true,true,true] (aa (ag Z) (aa (ag Z) (aa (aR Z) ab))) (bF Z (aQ Z) (dE (sT (an (aD Y (zN h I (.slice A ns.length c) 2 (.slice none 0 0) (.slice (some ⟨O,0,none⟩) ns.length ns.length) (.slice (some ⟨T,0,none⟩) ns.length ns.length) 0 0 (.slice none 0 0) (.slice none 0 0)).toArray Z ?_)))))))
  refine al (l':=dD Y h I (.slice A ns.length c) 2 (.slice none 0 0) (.slice (some ⟨O,0,none⟩) ns.length ns.length) (.slice (some ⟨T,0,none⟩) ns.length ns.length) 0 0 (.slice none 0 0) (.slice none 0 0)::blk O 30 (List.replicate ns.length (Value.int .u64 0)).toArray::blk T 3 (List.replicate ns.length (Value.int .i64 0)).toArray::nodesOwn (.slice A ns.length c) ns::bN h d f::dT f e j::aG e p' (FK.o8.submit ⟨I,ns⟩)::aM j d FK.J0::ar d (FK.py (l0++[1::FK.bo ⟨I,ns⟩]) 1)::fr) ap ?_;refine al (Ent.cons (th f8)) ?_;exact aw (dD Y h I (.slice A ns.length c) 2 (.slice none 0 0) (.slice (some ⟨O,0,none⟩) ns.length ns.length) (.slice (some ⟨T,0,none⟩) ns.length ns.length) 0 0 (.slice none 0 0) (.slice none 0 0)::cM (.slice (some ⟨O,0,none⟩) ns.length ns.length) (List.replicate ns.length 0)::aU (.slice (some ⟨T,0,none⟩) ns.length ns.length) (List.replicate ns.length 0)::nodesOwn (.slice A ns.length c) ns::E8 h f e j d p' (FK.o8.submit ⟨I,ns⟩) (l0++[1::FK.bo ⟨I,ns⟩])) Z Z ⟨Y,h,f,e,j,d,p',_,R,_,_,rfl,d6,f9,rfl⟩ aN
 ·
  refine dK [true,true,true] (aa (ag Z) (aa (ag Z) (aa (aR Z) ab))) ?_;refine cK 6 Z (vS (z:=.int .u64 0) (bytes:=8) Z Z CI Z Z ai ai λO=>?_);refine dK [true,true,true] (aa (ag Z) (aa (ag Z) (aa (aR Z) ab)))<|dr 11 Z (bT (ps:=[(0,.tmp 33),(1,.tmp 34),(2,.tmp 35),(4,.tmp 39),(5,.tmp 43)]) (vs:=[aX h,.agg #[.int .i64 I,.slice A ns.length c],aV 2,.slice (some ⟨O,0,none⟩) ns.length ns.length,.slice (some ⟨T,0,none⟩) ns.length ns.length]) (cs:=(zN h I (.slice A ns.length c) 2 (.slice none 0 0) (.slice (some ⟨O,0,none⟩) ns.length ns.length) (.slice (some ⟨T,0,none⟩) ns.length ns.length) 0 0 (.slice none 0 0) (.slice none 0 0)).toArray) Z Z Z Z Z)<|tV Z (cL Z Z λY=>(dK [true,true,true] (aa (ag Z) (aa (ag Z) (aa (aR Z) ab))) (bF Z (aQ Z) (dE (sT (an (aD Y (zN h I (.slice A ns.length c) 2 (.slice none 0 0) (.slice (some ⟨O,0,none⟩) ns.length ns.length) (.slice (some ⟨T,0,none⟩) ns.length ns.length) 0 0 (.slice none 0 0) (.slice none 0 0)).toArray Z ?_)))))))
  refine al (l':=dD Y h I (.slice A ns.length c) 2 (.slice none 0 0) (.slice (some ⟨O,0,none⟩) ns.length ns.length) (.slice (some ⟨T,0,none⟩) ns.length ns.length) 0 0 (.slice none 0 0) (.slice none 0 0)::blk O 30 (List.replicate ns.length (Value.int .u64 0)).toArray::blk T 3 (List.replicate ns.length (Value.int .i64 0)).toArray::nodesOwn (.slice A ns.length c) ns::bN h d f::dT f e j::aG e p' (FK.o8.submit ⟨I,ns⟩)::aM j d FK.J0::ar d (FK.py (l0++[1::FK.bo ⟨I,ns⟩]) 1)::fr) ap ?_;refine al (Ent.cons (th f8)) ?_;exact aw (dD Y h I (.slice A ns.length c) 2 (.slice none 0 0) (.slice (some ⟨O,0,none⟩) ns.length ns.length) (.slice (some ⟨T,0,none⟩) ns.length ns.length) 0 0 (.slice none 0 0) (.slice none 0 0)::cM (.slice (some ⟨O,0,none⟩) ns.length ns.length) (List.replicate ns.length 0)::aU (.slice (some ⟨T,0,none⟩) ns.length ns.length) (List.replicate ns.length 0)::nodesOwn (.slice A ns.length c) ns::E8 h f e j d p' (FK.o8.submit ⟨I,ns⟩) (l0++[1::FK.bo ⟨I,ns⟩])) Z Z ⟨Y,h,f,e,j,d,p',_,R,_,_,rfl,d6,f9,rfl⟩ aN
end Go.Y

namespace FK
theorem IH {id j i:Nat} {l:List Sp} {s:Sp} (hi:i<j) (h:l[i]?=some s) (h3:s.state=3):(s.token,(⟨id,(i:Int),0⟩:Pl))∈qN id l j:=by
 unfold qN;refine List.mem_flatMap.2 ⟨i,List.mem_range.2 hi,?_⟩;rw[h];simp[h3]
theorem IJ {S:En} {id i:Nat} {R:Rn} {s:Sp} (E:S.getR id=some R) (h:R.Lv[i]?=some s) (h3:s.state=3):(s.token,(⟨id,(i:Int),0⟩:Pl))∈tW S.runs:=
 List.mem_flatMap.2 ⟨(id,R),kr E,IH (cB h) h h3⟩
theorem Ok.tkOf_in {S:En} (h:Ok S) {x:Nat×Pl} (E:x∈tW S.runs):x∈S.Ly:=by
 obtain⟨r,I,i,s,K,O,rfl⟩:=xy E;exact h.ofTask (oT h.ids (show(r.1,r.2)∈S.runs from I)) K O
theorem IG (id:Nat) (l:List Sp) (j:Nat):(qN id l j).Pairwise λx y=>x.2≠y.2:=by
 unfold qN;rw[List.pairwise_flatMap];refine⟨λi _=>?_,?_⟩
 · cases l[i]? with
   | none=>exact List.Pairwise.nil
   | some s=>
    simp only
    split
    · simp
    · simp
 · refine List.nodup_range.imp λ{a b} I x K y O e=>?_
   have key:∀(i:Nat) (z:Nat×Pl),(z∈match l[i]? with|some s=>if s.state=3 then[(s.token,(⟨id,(i:Int),0⟩:Pl))] else[]|none=>[])->z.2=⟨id,(i:Int),0⟩:=λi z E=>by
    split at E
    · split at E
      · rw[List.mem_singleton] at E
        rw[E]
      · cases E
    · cases E
   have T:=key a x K;have Y:=key b y O;rw[T,Y] at e;injection e with _ e2 _;exact I ai
theorem II {S:En} (h:Ok S):(tW S.runs).Pairwise λx y=>x.2≠y.2:=by
 unfold tW;rw[List.pairwise_flatMap];refine⟨λr _=>IG _ _ _,?_⟩;have hi:=h.ids;unfold List.Nodup at hi;rw[List.pairwise_map] at hi;refine hi.imp λ{a b} E x I y K e=>?_;obtain⟨i,s,_,_,_,rfl⟩:=oN I;obtain⟨j,u,_,_,_,rfl⟩:=oN K;injection e with e1 _ _;exact E e1
theorem Ok.rd {S:En} (h:Ok S):Ok S.rd where
 now:=h.now
 seed:=h.seed
 ids:=h.ids
 low:=h.low
 six:=h.six
 run:=h.run
 tkeys:=by
  show((tW S.runs).map (·.1)).Nodup;unfold List.Nodup;rw[List.pairwise_map];refine(List.Pairwise.and_mem.1 (II h)).imp λ{a b} ⟨K,O,E⟩ e=>?_;obtain⟨a1,a2⟩:=a;obtain⟨b1,b2⟩:=b;simp only at e E;subst e;exact E<|h.oneTask (h.tkOf_in K)<|h.tkOf_in O
 tlow:=λt I=>h.tlow t (h.tkOf_in I)
 Ly:=λt p=>by
  constructor
  · intro I
    exact(h.Ly t p).1 (h.tkOf_in I)
  · intro ⟨id,k,s,e,h1,h2,h3⟩
    obtain⟨R,T,Y⟩:=jO (S:=S) h1;rw[e,<-h3];exact IJ T Y h2
 qnd:=h.qnd
 Lx:=h.Lx
 knd:=h.knd
 tms:=h.tms
theorem Lone.rd {id:Nat} {F:Flow} {S:En} {R:Rn} (h:Lone id F S R):Lone id F S.rd R:=⟨h.ok.rd,h.get,h.fl,h.seed,h.alone,h.hon,h.due⟩
structure Sec (F:Flow) (S:En) (R:Rn):Prop where
 lone:Lone 2 F S R
 keys:S.runs.map (·.1)=[1,2]
 one:∀A,S.getR 1=some A->A.fl=flow2
 stt:Stt S
theorem Sec.kp {F:Flow} {S U:En} {R R':Rn} (h:Sec F S R) (E:Lone 2 F U R') (k:Kp S U):Sec F U R':=⟨E,k.keys.trans h.keys,λA I=>by
 obtain⟨B,K,e,_⟩:=k.run 1 A I;rw[e];exact h.one B K,h.stt.kp k⟩
section
variable {F:Flow} {S:En} {R:Rn}
theorem Sec.rd (h:Sec F S R):Sec F S.rd R:=h.kp h.lone.rd (kp_rd S)
theorem Sec.svd (h:Sec F S R) (E:S.ends<9223372036854775808) (I:S.Ls<9223372036854775808) (h3:S.Lt<9223372036854775808):Svd S:=⟨h.lone.ok,by rw[h.keys];decide,E,I,h3,λx K=>h.stt x.1 x.2 (oT h.lone.ok.ids K)⟩
theorem Sec.qLe (h:Sec F S R):S.Lx.length<=F.Lw.length:=by
 have:=lF (m:=(List.range F.Lw.length).map λ(k:Nat)=>(⟨2,(k:Int),0⟩:Pl)) h.lone.ok.qnd λp E=>by
  obtain⟨a,j,s,rfl,I,O⟩:=(h.lone.ok.Lx p).1 E;obtain⟨rfl,K⟩:=h.lone.live I ai;exact List.mem_map.2 ⟨j,List.mem_range.2 (F0 h.lone K),rfl⟩
 simpa using this
theorem Sec.tLe (h:Sec F S R):S.tms.length<=1+2*F.Lw.length:=by
 have:=lF (m:=(⟨2,-1,0⟩:Pl)::((List.range F.Lw.length).map λ(k:Nat)=>(⟨2,(k:Int),1⟩:Pl))++(List.range F.Lw.length).map λ(k:Nat)=>(⟨2,(k:Int),2⟩:Pl)) h.lone.ok.knd λp Y=>by
  obtain⟨x,hx,rfl⟩:=List.mem_map.1 Y;obtain⟨_,A,K,O,E⟩:=h.lone.ok.tms x hx;obtain⟨⟨p1,p2,p3⟩,x2⟩:=x;simp only at K E;obtain rfl:p1=2:=Classical.byContradiction λhn=>h.lone.alone p1 A hn K O;have T:A=R:=by have:=h.lone.get;rw[K] at this;injection this
  subst T;rcases E with⟨rfl,rfl⟩|⟨k,s,rfl,O,h2⟩
  · simp
  · have I:=F0 h.lone O
    rw[List.mem_append,List.mem_cons];rcases h2 with⟨rfl,_⟩|⟨rfl,_⟩
    · exact .inl (.inr (List.mem_map.2 ⟨k,List.mem_range.2 I,rfl⟩))
    · exact .inr (List.mem_map.2 ⟨k,List.mem_range.2 I,rfl⟩)
 rw[List.length_map] at this;simp only[List.length_append,List.length_cons,List.length_map,List.length_range] at this;omega
end
def kz (s:ByteArray):ByteArray:=⟨(Go.Lib.trimPrefix s.data.toList (⟨#[98,97,115,101]⟩:ByteArray).data.toList).toArray⟩
def kA (fs:jZ) (name:ByteArray):List UInt8:=((dw fs name).map λs=>s.data.toList).getD []
structure Sc where
 n:Nat
 found:Option (List UInt8)
def gG (fs:jZ) (a:Sc) (s:ByteArray):Sc:=
 match Go.Lib.atoi (kz s).data.toList with
 | none=>a
 | some k=>if k<=(a.n:Int) then a else
  match (dw fs s).bind λb=>next b.data.toList with
  | some (x,r)=>if r=[] then⟨k.toNat,some x⟩ else a
  | none=>a
structure NameOk (s:ByteArray):Prop where
 size:(kz s).size<=18
 num:∀k,Go.Lib.atoi (kz s).data.toList=some k->k<1000000
section
variable {b s:ByteArray} {fs:jZ} {a:Sc} {k:Int}
theorem pK (h:Go.Lib.atoi (kz s).data.toList=none):gG fs a s=a:=by unfold gG;rw[h]
theorem pJ (h:Go.Lib.atoi (kz s).data.toList=some k) (E:k<=(a.n:Int)):gG fs a s=a:=by
 unfold gG;rw[h];exact if_pos E
theorem tt (h:Go.Lib.atoi (kz s).data.toList=some k) (E:¬k<=(a.n:Int)) (I:dw fs s=some b) (K:next b.data.toList=none):gG fs a s=a:=by
 unfold gG;rw[h];simp only[if_neg E,I,Option.bind_some,K]
theorem tq {x r:List UInt8} (h:Go.Lib.atoi (kz s).data.toList=some k) (E:¬k<=(a.n:Int)) (I:dw fs s=some b) (K:next b.data.toList=some (x,r)) (O:r≠[]):gG fs a s=a:=by
 unfold gG;rw[h];simp only[if_neg E,I,Option.bind_some,K,if_neg O]
theorem sa {x:List UInt8} (h:Go.Lib.atoi (kz s).data.toList=some k) (E:¬k<=(a.n:Int)) (I:dw fs s=some b) (K:next b.data.toList=some (x,[])):gG fs a s=⟨k.toNat,some x⟩:=by
 unfold gG;rw[h];simp only[if_neg E,I,Option.bind_some,K,if_true]
theorem Gr (h:NameOk s) (E:a.n<1000000):(gG fs a s).n<1000000:=by
 unfold gG
 split
 · exact E
 · rename_i k I
   have:=h.num k I
   split
   · exact E
   · split
     · split
       · show k.toNat<_;omega
       · exact E
     · exact E
def scan (fs:jZ) (ns:List ByteArray):Sc:=ns.foldl (gG fs) ⟨0,none⟩
theorem DH (fs:jZ) (ns:List ByteArray) {k:Nat} (h:ns[k]?=some s):scan fs (ns.take (k+1))=gG fs (scan fs (ns.take k)) s:=by
 unfold scan;rw[List.take_add_one,h,List.foldl_append]
 rfl
theorem IW:∀{ns:List ByteArray},(∀s∈ns,NameOk s)->(scan fs ns).n<1000000:=by
 intro ns h;unfold scan;have key:∀(ns:List ByteArray) (a:Sc),(∀s∈ns,NameOk s)->a.n<1000000->(ns.foldl (gG fs) a).n<1000000:=by
  intro ns
  induction ns with
  | nil=>intro a _ E;exact E
  | cons s ns K=>intro a h E;exact K _ (λx I=>h x (.tail _ I)) (Gr (h s (.head _)) E)
 exact key ns _ h (by show 0<1000000;omega)
theorem Reds.lens {S U:En} {l:List (List UInt8)} (h:Reds S l U):∀x∈l,x.length<=1000000001:=by
 induction h with
 | nil=>intro x E;cases E
 | cons _ I _ _ K=>
  intro x E;rcases List.mem_cons.1 E with rfl|E
  · exact I
  · exact K x E
end
inductive Parse:List UInt8->List (List UInt8)->Bool->Prop
 | nil:Parse [] [] false
 | torn {bs:List UInt8}:bs≠[]->next bs=none->Parse bs [] true
 | cons {bs x r:List UInt8} {l:List (List UInt8)} {t:Bool}:bs≠[]->next bs=some (x,r)->Parse r l t->Parse bs (x::l) t
section
variable {s:ByteArray} {l:List ByteArray} {σ:Dsk} {n:Nat}
theorem Hn (x r:List UInt8):frame x++r≠[]:=λh=>by
 have I:=Eo x;have E:(frame x++r).length=0:=by rw[h];rfl
 rw[List.length_append] at E;omega
theorem Parse.frames {r:List UInt8} {m:List (List UInt8)} {t:Bool} (h:Parse r m t):∀{l:List (List UInt8)},(∀x∈l,x.length<18446744073709551616)->Parse (frames l++r) (l++m) t
 | [],_=>h
 | x::l,hl=>by
  rw[zh,List.append_assoc];exact .cons (Hn _ _) (tB x _ (hl x (.head _))) (Parse.frames h λy E=>hl y (.tail _ E))
def rms (n:Nat):List ByteArray->Dsk->Dsk×Int
 | [],σ=>(σ,0)
 | s::l,σ=>if s=aW n\/s=bw n then rms n l σ else if (σ.tell ⟨3,s,⟨#[]⟩⟩).2=0 then rms n l (σ.tell ⟨3,s,⟨#[]⟩⟩).1 else σ.tell ⟨3,s,⟨#[]⟩⟩
theorem sb (h:s=aW n\/s=bw n):rms n (s::l) σ=rms n l σ:=by
 conv=>lhs;unfold rms
 exact if_pos h
theorem KK (h:¬(s=aW n\/s=bw n)) (E:(σ.tell ⟨3,s,⟨#[]⟩⟩).2=0):rms n (s::l) σ=rms n l (σ.tell ⟨3,s,⟨#[]⟩⟩).1:=by
 conv=>lhs;unfold rms
 rw[if_neg h,if_pos E]
theorem Gu (h:¬(s=aW n\/s=bw n)) (E:(σ.tell ⟨3,s,⟨#[]⟩⟩).2≠0):rms n (s::l) σ=σ.tell ⟨3,s,⟨#[]⟩⟩:=by
 conv=>lhs;unfold rms
 rw[if_neg h,if_neg E]
def Dsk.opened (σ:Dsk) (n:Nat) (ns:List ByteArray):Dsk×Int:=
 if (rms n ns σ).2≠0 then rms n ns σ else(rms n ns σ).1.sync
def vX (σ:Dsk) (n:Nat) (E:Dsk) (x:Int):Prop:=(σ.sync.2≠0/\E=σ.sync.1/\x=σ.sync.2)\/(σ.sync.2=0/\∃ns:List ByteArray,ns.Perm (σ.now.map (·.1))/\E=(σ.sync.1.opened n (gN ns)).1/\x=(σ.sync.1.opened n (gN ns)).2)
theorem IN (h:σ.sync.2=0):σ.sync.1.down=false/\σ.sync.1.now=σ.now/\σ.sync.1.pend=[]/\σ.sync.1.dur=σ.pend.foldl ea σ.dur:=by
 unfold Dsk.sync at h ⊢
 split at h
 · rename_i E;exact absurd h E
 · rename_i E
   rw[if_neg E];unfold Dsk.writes at E ⊢
   split
   · rename_i I;rw[if_pos I] at E;exact absurd cP E
   · rename_i I
     rw[if_neg I] at E
     split
     · rename_i K;rw[if_pos K] at E;exact absurd cP E
     · have:σ.down=false:=by
        cases hd:σ.down with
        | false=>rfl
        | true=>exact absurd (.inl hd) I
       exact⟨this,rfl,rfl,rfl⟩
theorem vi {fs:jZ} (h:s∈fs.map (·.1)):∃b,dw fs s=some b:=by
 obtain⟨x,E,rfl⟩:=List.mem_map.1 h;unfold dw;cases hf:fs.find? (·.1==x.1) with
 | none=>
  have:=List.find?_eq_none.1 hf x E;exact absurd ((Go.MapKept.bytes_beq _ _).2 rfl) this
 | some y=>exact⟨_,rfl⟩
theorem sortB_mem {ns:List ByteArray}:s∈gN ns<->s∈ns:=by
 unfold gN;constructor
 · intro h
   obtain⟨l,E,rfl⟩:=List.mem_map.1 h;rw[List.mem_mergeSort] at E;obtain⟨u,I,rfl⟩:=List.mem_map.1 E;have e:(⟨u.data.toList.toArray⟩:ByteArray)=u:=by rw[Array.toArray_toList]
   rw[e];exact I
 · intro h
   refine List.mem_map.2 ⟨s.data.toList,?_,by rw[Array.toArray_toList]⟩;rw[List.mem_mergeSort];exact List.mem_map.2 ⟨s,h,rfl⟩
theorem IK:vol (σ.tell ⟨3,s,⟨#[]⟩⟩).1.now<=vol σ.now/\vol (σ.tell ⟨3,s,⟨#[]⟩⟩).1.dur=vol σ.dur/\(σ.tell ⟨3,s,⟨#[]⟩⟩).1.pend.length<=σ.pend.length+1/\fR (σ.tell ⟨3,s,⟨#[]⟩⟩).1.pend=fR σ.pend:=by
 have hw:σ.writes.1.now=σ.now/\σ.writes.1.dur=σ.dur/\σ.writes.1.pend=σ.pend:=by
  unfold Dsk.writes
  split
  · exact⟨rfl,rfl,rfl⟩
  · split<;>exact⟨rfl,rfl,rfl⟩
 obtain⟨E,I,h3⟩:=hw;unfold Dsk.tell
 split
 · simp only[E,I,h3,fR,List.map_append,List.sum_append,List.length_append]
   refine⟨cm _,trivial,cm _,rfl⟩
 · split
   · rw[E,I,h3];exact⟨cm _,rfl,Nat.le_succ _,rfl⟩
   · split
     · show vol σ.writes.1.now<=_/\vol σ.writes.1.dur=_/\σ.writes.1.pend.length<=_/\fR σ.writes.1.pend=_
       rw[E,I,h3];exact⟨cm _,rfl,Nat.le_succ _,rfl⟩
     · simp only[E,I,h3,fR,List.map_append,List.sum_append,List.length_append]
       refine⟨?_,trivial,cm _,rfl⟩;have:=rG σ.now ⟨3,s,⟨#[]⟩⟩;exact this
end
open Go.Y (dN i64)
structure Klo (l:List (List UInt8)) (σ:Dsk):Prop where
 files:σ.dur=[(bw 0,dN (frames l))]\/(l=[]/\σ.dur=[])
 now:σ.now=σ.dur
 pend:σ.pend=[]
structure Spent (L F:Int) (k:Nat) (σ:Dsk):Prop where
 left:σ.left=Go.IntKind.i64.wrap (L-k)
 full:σ.full=Go.IntKind.i64.wrap (F-k)
 down:σ.down=false
end FK
